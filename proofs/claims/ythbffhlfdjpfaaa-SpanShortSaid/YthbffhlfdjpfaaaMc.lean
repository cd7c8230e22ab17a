/- Fastest ways by rounds, where numbers on the nodes show that no cycle gains: the tree of steps, and that the rounds end. -/
import Derived.Test.YthbffhlfdjpfaaaW1
namespace Go.Proofs.Ythbffhlfdjpfaaa
set_option linter.unusedVariables false
set_option linter.unusedSimpArgs false

/-- a step of the network that has room -/
def Ok (m : Nat) (cap f : Nat → Int) (st : Stp) : Prop := st.arc < m ∧ 0 < room cap f st
/-- numbers on the nodes: no step with room is shorter than they say -/
def Feas (m : Nat) (fr to cap f tm : Nat → Int) (p : Int → Int) : Prop := ∀ st, Ok m cap f st → p (sto fr to st) ≤ p (sfr fr to st) + stm tm st

/-- v lies n steps from s along the tree By -/
def Anc (fr to : Nat → Int) (By : Int → Stp) (s : Int) : Nat → Int → Prop
  | 0, v => v = s
  | n + 1, v => v ≠ s ∧ Anc fr to By s n (sfr fr to (By v))
/-- the nodes from v back, n steps -/
def chN (fr to : Nat → Int) (By : Int → Stp) : Nat → Int → List Int
  | 0, v => [v]
  | n + 1, v => v :: chN fr to By n (sfr fr to (By v))

theorem Anc.uniq {fr to : Nat → Int} {By : Int → Stp} {s : Int} {n k : Nat} {v : Int} (h : Anc fr to By s n v) (h' : Anc fr to By s k v) : n = k := by
  induction n generalizing k v with
  | zero => cases k with
    | zero => rfl
    | succ k => exact absurd h h'.1
  | succ n ih => cases k with
    | zero => exact absurd h' h.1
    | succ k => rw [ih h.2 h'.2]

theorem chN_len (fr to : Nat → Int) (By : Int → Stp) (n : Nat) (v : Int) : (chN fr to By n v).length = n + 1 := by
  induction n generalizing v with
  | zero => rfl
  | succ n ih => simp [chN, ih]
theorem chN_self (fr to : Nat → Int) (By : Int → Stp) (n : Nat) (v : Int) : v ∈ chN fr to By n v := by cases n <;> simp [chN]
theorem chN_anc {fr to : Nat → Int} {By : Int → Stp} {s : Int} {n : Nat} {v y : Int} (h : Anc fr to By s n v) (hy : y ∈ chN fr to By n v) : ∃ j, j ≤ n ∧ Anc fr to By s j y := by
  induction n generalizing v with
  | zero => simp [chN] at hy; subst hy; exact ⟨0, Nat.le_refl _, h⟩
  | succ n ih =>
    rcases List.mem_cons.1 hy with rfl | hy
    · exact ⟨n + 1, Nat.le_refl _, h⟩
    · obtain ⟨j, hj, ha⟩ := ih h.2 hy
      exact ⟨j, by omega, ha⟩
theorem chN_src {fr to : Nat → Int} {By : Int → Stp} {s : Int} {n : Nat} {v : Int} (h : Anc fr to By s n v) : s ∈ chN fr to By n v := by
  induction n generalizing v with
  | zero => have : v = s := h; subst this; simp [chN]
  | succ n ih => exact List.mem_cons_of_mem _ (ih h.2)
theorem chN_nodup {fr to : Nat → Int} {By : Int → Stp} {s : Int} {n : Nat} {v : Int} (h : Anc fr to By s n v) : (chN fr to By n v).Nodup := by
  induction n generalizing v with
  | zero => simp [chN]
  | succ n ih =>
    refine List.nodup_cons.2 ⟨fun hm => ?_, ih h.2⟩
    obtain ⟨j, hj, ha⟩ := chN_anc h.2 hm
    have := h.uniq ha
    omega
theorem nodup_le (N : Nat) : ∀ l : List Int, l.Nodup → (∀ x, x ∈ l → Nd N x) → l.length ≤ N := by
  induction N with
  | zero =>
    intro l _ h
    cases l with
    | nil => simp
    | cons x l => have := h x (List.mem_cons_self ..); obtain ⟨h0, h1⟩ := this; omega
  | succ N ih =>
    intro l hn h
    by_cases hm : (N : Int) ∈ l
    · have h1 := ih (l.erase (N : Int)) (hn.erase _) fun x hx => by
        have h2 := (hn.mem_erase_iff).1 hx
        have := h x h2.2
        exact ⟨this.1, by have := this.2; have := h2.1; omega⟩
      rw [List.length_erase_of_mem hm] at h1
      omega
    · have h1 := ih l hn fun x hx => by
        have h2 := h x hx
        refine ⟨h2.1, ?_⟩
        have h3 : x ≠ (N : Int) := fun e => hm (e ▸ hx)
        have := h2.2
        omega
      omega

def plen (tm : Nat → Int) : List Stp → Int
  | [] => 0
  | st :: l => stm tm st + plen tm l
theorem plen_append (tm : Nat → Int) (l k : List Stp) : plen tm (l ++ k) = plen tm l + plen tm k := by
  induction l with
  | nil => simp [plen]
  | cons st l ih => simp only [List.cons_append, plen, ih]; omega
/-- a way with room from s -/
def PathTo (m : Nat) (fr to cap f : Nat → Int) (s : Int) (l : List Stp) (v : Int) : Prop := Chn fr to s l v ∧ ∀ st, st ∈ l → Ok m cap f st
theorem PathTo.snoc {m : Nat} {fr to cap f : Nat → Int} {s : Int} {l : List Stp} {st : Stp} (h : PathTo m fr to cap f s l (sfr fr to st)) (ho : Ok m cap f st) : PathTo m fr to cap f s (l ++ [st]) (sto fr to st) := by
  refine ⟨h.1.append ⟨rfl, rfl⟩, fun x hx => ?_⟩
  rcases List.mem_append.1 hx with hx | hx
  · exact h.2 x hx
  · obtain rfl := List.mem_singleton.1 hx; exact ho
theorem PathTo.unsnoc {m : Nat} {fr to cap f : Nat → Int} {s v : Int} {l : List Stp} {st : Stp} (h : PathTo m fr to cap f s (l ++ [st]) v) : PathTo m fr to cap f s l (sfr fr to st) ∧ Ok m cap f st ∧ sto fr to st = v := by
  obtain ⟨u, h1, h2⟩ := h.1.parts
  have e1 : sfr fr to st = u := h2.1
  have e2 : sto fr to st = v := h2.2
  subst e1 e2
  exact ⟨⟨h1, fun x hx => h.2 x (List.mem_append.2 (.inl hx))⟩, h.2 st (List.mem_append.2 (.inr (List.mem_singleton.2 rfl))), rfl⟩
/-- along a way the numbers rise at most by its length -/
theorem Feas.path {m : Nat} {fr to cap f tm : Nat → Int} {p : Int → Int} (h : Feas m fr to cap f tm p) {s v : Int} {l : List Stp} (hl : PathTo m fr to cap f s l v) : p v ≤ p s + plen tm l := by
  obtain ⟨hc, ho⟩ := hl
  induction l generalizing s with
  | nil => cases hc; simp [plen]
  | cons st l ih =>
    have h1 := h st (ho st (List.mem_cons_self ..))
    have h2 := ih hc.2 (fun x hx => ho x (List.mem_cons_of_mem _ hx))
    have e : sfr fr to st = s := hc.1
    rw [e] at h1
    simp only [plen]
    omega

def upd {α : Type} (D : Int → α) (w : Int) (x : α) (v : Int) : α := if v = w then x else D v
theorem upd_self {α : Type} (D : Int → α) (w : Int) (x : α) : upd D w x w = x := by simp [upd]
theorem upd_ne {α : Type} (D : Int → α) {w v : Int} (h : v ≠ w) (x : α) : upd D w x v = D v := by simp [upd, h]

/-- how many nodes are come to -/
def cnt (N : Nat) (Is : Int → Bool) : Int := sumTo N fun i => if Is (i : Int) then 1 else 0
theorem cnt_le (N : Nat) (Is : Int → Bool) : cnt N Is ≤ N := by
  have h := sumTo_le (m := N) (g := fun i => if Is (i : Int) then 1 else 0) (h := fun _ => 1) fun i _ => by split <;> omega
  have e : sumTo N (fun _ => 1) = N := by
    clear h
    induction N with
    | zero => rfl
    | succ N ih => simp only [sumTo, ih]; omega
  unfold cnt
  omega
theorem cnt_upd {N : Nat} {Is : Int → Bool} {w : Int} (hw : Nd N w) (h : Is w = false) : cnt N (upd Is w true) = cnt N Is + 1 := by
  obtain ⟨h0, h1⟩ := hw
  have e : cnt N (upd Is w true) - cnt N Is = 1 := by
    unfold cnt
    rw [← sumTo_sub, sumTo_one (j := w.toNat) (by omega)]
    · rw [show ((w.toNat : Nat) : Int) = w by omega]; simp [upd, h]
    · intro i _ hi
      rw [upd_ne _ (by omega)]; omega
  omega
theorem cnt_same {N : Nat} {Is : Int → Bool} {w : Int} (h : Is w = true) : cnt N (upd Is w true) = cnt N Is := by
  unfold cnt
  refine sumTo_congr fun i _ => ?_
  by_cases hw : (i : Int) = w
  · rw [hw, upd_self, h]
  · rw [upd_ne _ hw]

/-- the state of the rounds -/
structure BFI (m N : Nat) (fr to cap f tm : Nat → Int) (s : Int) (D : Int → Int) (Is : Int → Bool) (By : Int → Stp) : Prop where
  src : Is s = true
  zero : D s = 0
  nd : ∀ v, Is v = true → Nd N v
  par : ∀ v, Is v = true → v ≠ s → Ok m cap f (By v) ∧ sto fr to (By v) = v ∧ Is (sfr fr to (By v)) = true ∧ D (sfr fr to (By v)) + stm tm (By v) ≤ D v
  anc : ∀ v, Is v = true → ∃ n, Anc fr to By s n v
  up : ∀ v, Is v = true → D v ≤ (cnt N Is - 1) * 1048576

section
variable {m N : Nat} {fr to cap f tm : Nat → Int} {p : Int → Int} {s : Int} {D : Int → Int} {Is : Int → Bool} {By : Int → Stp}

theorem BFI.chain (h : BFI m N fr to cap f tm s D Is By) (hp : Feas m fr to cap f tm p) {n : Nat} {v y : Int} (hv : Is v = true) (ha : Anc fr to By s n v) (hy : y ∈ chN fr to By n v) : Is y = true ∧ D y - p y ≤ D v - p v := by
  induction n generalizing v with
  | zero => simp [chN] at hy; subst hy; exact ⟨hv, Int.le_refl _⟩
  | succ n ih =>
    rcases List.mem_cons.1 hy with rfl | hy
    · exact ⟨hv, Int.le_refl _⟩
    · obtain ⟨h1, h2, h3, h4⟩ := h.par v hv ha.1
      obtain ⟨h5, h6⟩ := ih h3 ha.2 hy
      have h7 := hp _ h1
      rw [h2] at h7
      exact ⟨h5, by omega⟩

/-- the way along the tree -/
theorem BFI.way (h : BFI m N fr to cap f tm s D Is By) {n : Nat} {v : Int} (hv : Is v = true) (ha : Anc fr to By s n v) : ∃ l, PathTo m fr to cap f s l v ∧ l.length = n ∧ plen tm l ≤ D v := by
  induction n generalizing v with
  | zero =>
    have e : v = s := ha
    subst e
    exact ⟨[], ⟨rfl, by simp⟩, rfl, by rw [h.zero]; simp [plen]⟩
  | succ n ih =>
    obtain ⟨h1, h2, h3, h4⟩ := h.par v hv ha.1
    obtain ⟨l, hl, hn, hd⟩ := ih h3 ha.2
    have h5 := hl.snoc h1
    rw [h2] at h5
    exact ⟨l ++ [By v], h5, by simp [hn], by rw [plen_append]; simp only [plen]; omega⟩

theorem BFI.anc_lt (h : BFI m N fr to cap f tm s D Is By) (hp : Feas m fr to cap f tm p) {n : Nat} {v : Int} (hv : Is v = true) (ha : Anc fr to By s n v) : n + 1 ≤ N := by
  have h1 := nodup_le N _ (chN_nodup ha) fun x hx => h.nd x (h.chain hp hv ha hx).1
  rwa [chN_len] at h1

theorem Anc.keep {By' : Int → Stp} {n : Nat} {v w : Int} (h : Anc fr to By s n v) (hk : ∀ y, y ≠ w → By' y = By y) (hw : w ∉ chN fr to By n v) : Anc fr to By' s n v := by
  induction n generalizing v with
  | zero => exact h
  | succ n ih =>
    simp only [chN, List.mem_cons, not_or] at hw
    refine ⟨h.1, ?_⟩
    rw [hk v (Ne.symm hw.1)]
    exact ih h.2 hw.2

theorem BFI.fresh (h : BFI m N fr to cap f tm s D Is By) (hp : Feas m fr to cap f tm p) {st : Stp} (ho : Ok m cap f st) (hv : Is (sfr fr to st) = true) (hr : Is (sto fr to st) = false ∨ D (sfr fr to st) + stm tm st < D (sto fr to st))
    {n : Nat} (ha : Anc fr to By s n (sfr fr to st)) : sto fr to st ∉ chN fr to By n (sfr fr to st) := by
  intro hm
  obtain ⟨h1, h2⟩ := h.chain hp hv ha hm
  rcases hr with hr | hr
  · rw [hr] at h1; cases h1
  · have := hp st ho; omega

/-- a step that makes a time less -/
theorem BFI.relax (h : BFI m N fr to cap f tm s D Is By) (hp : Feas m fr to cap f tm p) (hends : ∀ i, i < m → Nd N (fr i) ∧ Nd N (to i)) (htm : ∀ i, i < m → 0 ≤ tm i ∧ tm i ≤ 1048576) {st : Stp} (ho : Ok m cap f st) (hv : Is (sfr fr to st) = true)
    (hr : Is (sto fr to st) = false ∨ D (sfr fr to st) + stm tm st < D (sto fr to st)) :
    BFI m N fr to cap f tm s (upd D (sto fr to st) (D (sfr fr to st) + stm tm st)) (upd Is (sto fr to st) true) (upd By (sto fr to st) st) := by
  obtain ⟨n, ha⟩ := h.anc _ hv
  have hf := h.fresh hp ho hv hr ha
  have hvw : sfr fr to st ≠ sto fr to st := fun e => hf (by rw [← e]; exact chN_self ..)
  have hws : sto fr to st ≠ s := fun e => hf (by rw [e]; exact chN_src ha)
  have hwn : Nd N (sto fr to st) := by unfold sto; have := hends _ ho.1; split; exact this.1; exact this.2
  have hle : ∀ y, Is y = true → upd D (sto fr to st) (D (sfr fr to st) + stm tm st) y ≤ D y := by
    intro y hy
    by_cases hyw : y = sto fr to st
    · subst hyw
      rw [upd_self]
      rcases hr with hr | hr
      · rw [hr] at hy; cases hy
      · omega
    · rw [upd_ne _ hyw]; exact Int.le_refl _
  have hkeep : ∀ y, Is y = true → upd Is (sto fr to st) true y = true := by
    intro y hy
    by_cases hyw : y = sto fr to st
    · subst hyw; rw [upd_self]
    · rw [upd_ne _ hyw]; exact hy
  have hcnt : cnt N Is ≤ cnt N (upd Is (sto fr to st) true) := by
    cases hw : Is (sto fr to st)
    · rw [cnt_upd hwn hw]; omega
    · rw [cnt_same hw]; omega
  have hold : ∀ y, y ≠ sto fr to st → upd Is (sto fr to st) true y = true → Is y = true := fun y hy h1 => by rwa [upd_ne _ hy] at h1
  refine ⟨hkeep _ h.src, by rw [upd_ne _ (Ne.symm hws)]; exact h.zero, fun y hy => ?_, fun y hy hys => ?_, ?_, fun y hy => ?_⟩
  · by_cases hyw : y = sto fr to st
    · subst hyw; exact hwn
    · exact h.nd y (hold y hyw hy)
  · by_cases hyw : y = sto fr to st
    · subst hyw
      rw [upd_self, upd_self, upd_ne Is hvw, upd_ne D hvw]
      exact ⟨ho, rfl, hv, Int.le_refl _⟩
    · obtain ⟨h1, h2, h3, h4⟩ := h.par y (hold y hyw hy) hys
      rw [upd_ne By hyw, upd_ne D hyw]
      exact ⟨h1, h2, hkeep _ h3, by have := hle _ h3; omega⟩
  · have hv' : Anc fr to (upd By (sto fr to st) st) s n (sfr fr to st) := ha.keep (fun y hy => upd_ne _ hy _) hf
    have hw' : Anc fr to (upd By (sto fr to st) st) s (n + 1) (sto fr to st) := ⟨hws, by rw [upd_self]; exact hv'⟩
    have key : ∀ k y, Anc fr to By s k y → ∃ j, Anc fr to (upd By (sto fr to st) st) s j y := by
      intro k
      induction k with
      | zero => intro y hy; exact ⟨0, hy⟩
      | succ k ih =>
        intro y hy
        by_cases hyw : y = sto fr to st
        · subst hyw; exact ⟨n + 1, hw'⟩
        · obtain ⟨j, hj⟩ := ih _ hy.2
          exact ⟨j + 1, hy.1, by rw [upd_ne By hyw]; exact hj⟩
    intro y hy
    by_cases hyw : y = sto fr to st
    · subst hyw; exact ⟨n + 1, hw'⟩
    · obtain ⟨k, hk⟩ := h.anc y (hold y hyw hy)
      exact key k y hk
  · have hst : stm tm st ≤ 1048576 := by unfold stm; have := htm _ ho.1; split <;> omega
    by_cases hyw : y = sto fr to st
    · subst hyw
      rw [upd_self]
      cases hw : Is (sto fr to st)
      · rw [cnt_upd hwn hw]; have := h.up _ hv; omega
      · rw [cnt_same hw]
        rcases hr with hr | hr
        · rw [hr] at hw; cases hw
        · have := h.up _ hw; omega
    · rw [upd_ne _ hyw]; have := h.up y (hold y hyw hy); omega

/-- every time is at most that of each way of so few steps -/
def Rk (m : Nat) (fr to cap f tm : Nat → Int) (s : Int) (k : Nat) (D : Int → Int) (Is : Int → Bool) : Prop := ∀ l v, PathTo m fr to cap f s l v → l.length ≤ k → Is v = true ∧ D v ≤ plen tm l
/-- .. and along this step it is handed on -/
def Dn (m : Nat) (fr to cap f tm : Nat → Int) (s : Int) (k : Nat) (D : Int → Int) (Is : Int → Bool) (st : Stp) : Prop := ∀ l, PathTo m fr to cap f s l (sfr fr to st) → l.length ≤ k → Is (sto fr to st) = true ∧ D (sto fr to st) ≤ plen tm l + stm tm st
/-- nothing is left to do at this step -/
def Tt (fr to tm : Nat → Int) (D : Int → Int) (Is : Int → Bool) (st : Stp) : Prop := Is (sfr fr to st) = true → Is (sto fr to st) = true ∧ D (sto fr to st) ≤ D (sfr fr to st) + stm tm st

theorem Rk.zero (h : BFI m N fr to cap f tm s D Is By) : Rk m fr to cap f tm s 0 D Is := by
  intro l v hl hn
  have e : l = [] := List.eq_nil_of_length_eq_zero (by omega)
  subst e
  have : s = v := hl.1
  subst this
  exact ⟨h.src, by rw [h.zero]; simp [plen]⟩

/-- D' is no greater where something is come to, and no less is come to -/
def Les (D : Int → Int) (Is : Int → Bool) (D' : Int → Int) (Is' : Int → Bool) : Prop := ∀ y, Is y = true → Is' y = true ∧ D' y ≤ D y
theorem Les.rk {D' : Int → Int} {Is' : Int → Bool} (h : Les D Is D' Is') {k : Nat} (hk : Rk m fr to cap f tm s k D Is) : Rk m fr to cap f tm s k D' Is' := fun l v hl hn => by
  obtain ⟨h1, h2⟩ := hk l v hl hn
  obtain ⟨h3, h4⟩ := h v h1
  exact ⟨h3, by omega⟩
theorem Les.dn {D' : Int → Int} {Is' : Int → Bool} (h : Les D Is D' Is') {k : Nat} {st : Stp} (hk : Dn m fr to cap f tm s k D Is st) : Dn m fr to cap f tm s k D' Is' st := fun l hl hn => by
  obtain ⟨h1, h2⟩ := hk l hl hn
  obtain ⟨h3, h4⟩ := h _ h1
  exact ⟨h3, by omega⟩
theorem Les.relax {w d : Int} (hr : Is w = false ∨ d < D w) : Les D Is (upd D w d) (upd Is w true) := by
  intro y hy
  by_cases hyw : y = w
  · subst hyw
    rw [upd_self, upd_self]
    rcases hr with hr | hr
    · rw [hr] at hy; cases hy
    · exact ⟨rfl, by omega⟩
  · rw [upd_ne _ hyw, upd_ne _ hyw]; exact ⟨hy, Int.le_refl _⟩

theorem Dn.of_tt {k : Nat} {st : Stp} (hk : Rk m fr to cap f tm s k D Is) (h : Tt fr to tm D Is st) : Dn m fr to cap f tm s k D Is st := fun l hl hn => by
  obtain ⟨h1, h2⟩ := hk l _ hl hn
  obtain ⟨h3, h4⟩ := h h1
  exact ⟨h3, by omega⟩
theorem Dn.relaxed {k : Nat} {st : Stp} (hk : Rk m fr to cap f tm s k D Is) : Dn m fr to cap f tm s k (upd D (sto fr to st) (D (sfr fr to st) + stm tm st)) (upd Is (sto fr to st) true) st := fun l hl hn => by
  obtain ⟨_, h2⟩ := hk l _ hl hn
  rw [upd_self, upd_self]
  exact ⟨rfl, by omega⟩

theorem Rk.succ {k : Nat} (hb : BFI m N fr to cap f tm s D Is By) (h : ∀ st, Ok m cap f st → Dn m fr to cap f tm s k D Is st) : Rk m fr to cap f tm s (k + 1) D Is := by
  intro l v hl hn
  rcases List.eq_nil_or_concat l with rfl | ⟨l', st, rfl⟩
  · have : s = v := hl.1
    subst this
    exact ⟨hb.src, by rw [hb.zero]; simp [plen]⟩
  · rw [List.concat_eq_append] at hl hn ⊢
    obtain ⟨h1, h2, h3⟩ := hl.unsnoc
    subst h3
    obtain ⟨h4, h5⟩ := h st h2 l' h1 (by simp at hn; omega)
    exact ⟨h4, by rw [plen_append]; simp only [plen]; omega⟩

/-- behind N - 1 rounds nothing can be made less -/
theorem BFI.last (h : BFI m N fr to cap f tm s D Is By) (hp : Feas m fr to cap f tm p) (hends : ∀ i, i < m → Nd N (fr i) ∧ Nd N (to i)) {k : Nat} (hk : Rk m fr to cap f tm s k D Is) (hN : N ≤ k + 1) {st : Stp} (ho : Ok m cap f st) (hv : Is (sfr fr to st) = true)
    (hr : Is (sto fr to st) = false ∨ D (sfr fr to st) + stm tm st < D (sto fr to st)) : False := by
  obtain ⟨n, ha⟩ := h.anc _ hv
  have hf := h.fresh hp ho hv hr ha
  have hwn : Nd N (sto fr to st) := by unfold sto; have := hends _ ho.1; split; exact this.1; exact this.2
  have hlen := nodup_le N (sto fr to st :: chN fr to By n (sfr fr to st)) (List.nodup_cons.2 ⟨hf, chN_nodup ha⟩) fun x hx => by
    rcases List.mem_cons.1 hx with rfl | hx
    · exact hwn
    · exact h.nd x (h.chain hp hv ha hx).1
  rw [List.length_cons, chN_len] at hlen
  obtain ⟨l, hl, hn, hd⟩ := h.way hv ha
  obtain ⟨h1, h2⟩ := hk _ _ (hl.snoc ho) (by simp; omega)
  rw [plen_append] at h2
  simp only [plen] at h2
  rcases hr with hr | hr
  · rw [hr] at h1; cases h1
  · omega

/-- a time is no less than this -/
theorem BFI.low (h : BFI m N fr to cap f tm s D Is By) (hp : Feas m fr to cap f tm p) (htm : ∀ i, i < m → 0 ≤ tm i ∧ tm i ≤ 1048576) {v : Int} (hv : Is v = true) : - (N : Int) * 1048576 ≤ D v := by
  obtain ⟨n, ha⟩ := h.anc v hv
  have hn := h.anc_lt hp hv ha
  obtain ⟨l, hl, hln, hd⟩ := h.way hv ha
  have key : ∀ l : List Stp, (∀ st, st ∈ l → Ok m cap f st) → - (l.length : Int) * 1048576 ≤ plen tm l := by
    intro l
    induction l with
    | nil => intro _; simp [plen]
    | cons st l ih =>
      intro ho
      have h1 := ih fun x hx => ho x (List.mem_cons_of_mem _ hx)
      have h2 := htm _ (ho st (List.mem_cons_self ..)).1
      have h3 : - 1048576 ≤ stm tm st := by unfold stm; split <;> omega
      simp only [plen, List.length_cons]
      omega
  have := key l hl.2
  rw [hln] at this
  omega
theorem BFI.high (h : BFI m N fr to cap f tm s D Is By) {v : Int} (hv : Is v = true) : D v ≤ (N : Int) * 1048576 := by
  have h1 := h.up v hv
  have h2 := cnt_le N Is
  omega
end

end Go.Proofs.Ythbffhlfdjpfaaa
