/- Steps with room, ways, pushing along ways; greatest flows and least sides; no condition. -/
import Derived.Test.YthbffhlfdjpfaaaMa
namespace Go.Proofs.Ythbffhlfdjpfaaa
set_option linter.unusedVariables false
set_option linter.unusedSimpArgs false

/-- a step: an arc's place, gone along, or back -/
structure Stp where
  arc : Nat
  back : Bool
deriving DecidableEq, Inhabited

def sfr (fr to : Nat → Int) (st : Stp) : Int := if st.back then to st.arc else fr st.arc
def sto (fr to : Nat → Int) (st : Stp) : Int := if st.back then fr st.arc else to st.arc
def room (cap f : Nat → Int) (st : Stp) : Int := if st.back then f st.arc else cap st.arc - f st.arc
def push (f : Nat → Int) (st : Stp) (k : Int) (i : Nat) : Int := if i = st.arc then (if st.back then f i - k else f i + k) else f i
def pushAll (f : Nat → Int) (l : List Stp) (k : Int) : Nat → Int := l.foldl (fun f st => push f st k) f

/-- steps, one behind the other, from u to v -/
def Chn (fr to : Nat → Int) : Int → List Stp → Int → Prop
  | u, [], v => u = v
  | u, st :: l, v => sfr fr to st = u ∧ Chn fr to (sto fr to st) l v

theorem Chn.append {fr to : Nat → Int} {u v w : Int} {l k : List Stp} (h : Chn fr to u l v) (h' : Chn fr to v k w) : Chn fr to u (l ++ k) w := by
  induction l generalizing u with
  | nil => cases h; exact h'
  | cons st l ih => exact ⟨h.1, ih h.2⟩

theorem Chn.parts {fr to : Nat → Int} {u w : Int} {l k : List Stp} (h : Chn fr to u (l ++ k) w) : ∃ v, Chn fr to u l v ∧ Chn fr to v k w := by
  induction l generalizing u with
  | nil => exact ⟨u, rfl, h⟩
  | cons st l ih =>
    obtain ⟨v, h1, h2⟩ := ih h.2
    exact ⟨v, ⟨h.1, h1⟩, h2⟩

theorem bal_push {m : Nat} {fr to : Nat → Int} (f : Nat → Int) {st : Stp} (hst : st.arc < m) (k v : Int) :
    bal m fr to (push f st k) v = bal m fr to f v + ((if sfr fr to st = v then k else 0) - (if sto fr to st = v then k else 0)) := by
  have e : bal m fr to (push f st k) v - bal m fr to f v = (if sfr fr to st = v then k else 0) - (if sto fr to st = v then k else 0) := by
    rw [bal, bal, ← sumTo_sub, sumTo_one hst]
    · cases hb : st.back
      all_goals simp only [push, sfr, sto, hb, if_true]
      all_goals (repeat' split) <;> simp_all <;> omega
    · intro i _ hi
      simp [push, hi]
  omega

theorem bal_pushAll {m : Nat} {fr to : Nat → Int} (f : Nat → Int) {u w : Int} {l : List Stp} (hl : ∀ st, st ∈ l → st.arc < m) (hc : Chn fr to u l w) (k v : Int) :
    bal m fr to (pushAll f l k) v = bal m fr to f v + ((if u = v then k else 0) - (if w = v then k else 0)) := by
  induction l generalizing f u with
  | nil => cases hc; simp [pushAll]
  | cons st l ih =>
    have h := ih (push f st k) (fun s hs => hl s (List.mem_cons_of_mem _ hs)) hc.2
    have e : pushAll f (st :: l) k = pushAll (push f st k) l k := rfl
    rw [e, h, bal_push f (hl st (List.mem_cons_self ..)), hc.1]
    omega

theorem pushAll_off {f : Nat → Int} {l : List Stp} {k : Int} {i : Nat} (h : ∀ st, st ∈ l → st.arc ≠ i) : pushAll f l k i = f i := by
  induction l generalizing f with
  | nil => rfl
  | cons st l ih =>
    have e : pushAll f (st :: l) k = pushAll (push f st k) l k := rfl
    rw [e, ih (fun s hs => h s (List.mem_cons_of_mem _ hs))]
    have := h st (List.mem_cons_self ..)
    simp only [push]
    rw [if_neg (by omega)]

theorem pushAll_on {f : Nat → Int} {l : List Stp} {k : Int} (hn : (l.map (·.arc)).Nodup) {st : Stp} (hst : st ∈ l) : pushAll f l k st.arc = if st.back then f st.arc - k else f st.arc + k := by
  induction l generalizing f with
  | nil => cases hst
  | cons s l ih =>
    have e : pushAll f (s :: l) k = pushAll (push f s k) l k := rfl
    rw [e]
    simp only [List.map_cons, List.nodup_cons, List.mem_map, not_exists, not_and] at hn
    rcases List.mem_cons.1 hst with rfl | hm
    · rw [pushAll_off (fun x hx => hn.1 x hx)]
      simp [push]
    · rw [ih hn.2 hm]
      have : st.arc ≠ s.arc := hn.1 st hm
      simp [push, this]

theorem flow_pushAll {m : Nat} {cap f : Nat → Int} (hf : IsFlow m cap f) {l : List Stp} {k : Int} (hk : 0 ≤ k) (hn : (l.map (·.arc)).Nodup) (hr : ∀ st, st ∈ l → k ≤ room cap f st) : IsFlow m cap (pushAll f l k) := by
  intro i hi
  have h := hf i hi
  by_cases hm : ∃ st, st ∈ l ∧ st.arc = i
  · obtain ⟨st, hm, rfl⟩ := hm
    rw [pushAll_on hn hm]
    have := hr st hm
    unfold room at this
    split <;> simp_all <;> omega
  · rw [pushAll_off (fun st hs he => hm ⟨st, hs, he⟩)]; exact h

theorem balanced_pushAll {m N : Nat} {fr to : Nat → Int} {s t : Int} {f : Nat → Int} (hb : Balanced m N fr to s t f) {l : List Stp} (hl : ∀ st, st ∈ l → st.arc < m) (hc : Chn fr to s l t) (k : Int) : Balanced m N fr to s t (pushAll f l k) := by
  intro v hv h1 h2
  rw [bal_pushAll f hl hc, hb v hv h1 h2, if_neg (Ne.symm h1), if_neg (Ne.symm h2)]; rfl

theorem value_pushAll {m : Nat} {fr to : Nat → Int} {s t : Int} {f : Nat → Int} (hst : s ≠ t) {l : List Stp} (hl : ∀ st, st ∈ l → st.arc < m) (hc : Chn fr to s l t) (k : Int) : bal m fr to (pushAll f l k) s = bal m fr to f s + k := by
  rw [bal_pushAll f hl hc, if_pos rfl, if_neg (Ne.symm hst)]; omega

/-- nodes that differ have arcs that differ -/
theorem arcs_nodup {fr to : Nat → Int} {u v : Int} {l : List Stp} (hc : Chn fr to u l v) (hn : (u :: l.map (sto fr to)).Nodup) : (l.map (·.arc)).Nodup := by
  induction l generalizing u with
  | nil => simp
  | cons st l ih =>
    simp only [List.map_cons, List.nodup_cons, List.mem_cons, not_or] at hn
    refine List.nodup_cons.2 ⟨?_, ih hc.2 (by simpa [List.nodup_cons] using hn.2)⟩
    intro hm
    obtain ⟨s', hs', he⟩ := List.mem_map.1 hm
    -- the later step begins or ends at a node that was had
    have hend : sto fr to s' ∈ l.map (sto fr to) := List.mem_map_of_mem hs'
    have h1 : u ≠ sto fr to s' := fun e => hn.1.2 (e ▸ hend)
    have h2 : sto fr to st ≠ sto fr to s' := fun e => hn.2.1 (e ▸ hend)
    have e1 := hc.1
    cases hb : st.back <;> cases hb' : s'.back <;> simp_all [sfr, sto]

theorem chn_levels {fr to : Nat → Int} {d : Int → Int} {u v : Int} {l : List Stp} (hc : Chn fr to u l v) (hd : ∀ st, st ∈ l → d (sto fr to st) = d (sfr fr to st) + 1) : (u :: l.map (sto fr to)).Nodup ∧ ∀ x, x ∈ l.map (sto fr to) → d u < d x := by
  induction l generalizing u with
  | nil => simp
  | cons st l ih =>
    obtain ⟨h1, h2⟩ := ih hc.2 (fun s hs => hd s (List.mem_cons_of_mem _ hs))
    have h3 := hd st (List.mem_cons_self ..)
    rw [hc.1] at h3
    have h4 : ∀ x, x ∈ (st :: l).map (sto fr to) → d u < d x := by
      intro x hx
      rcases List.mem_cons.1 hx with rfl | hx
      · omega
      · have := h2 x hx; omega
    exact ⟨List.nodup_cons.2 ⟨fun hm => by have := h4 u hm; omega, h1⟩, h4⟩

theorem levels_nodup {fr to : Nat → Int} {d : Int → Int} {u v : Int} {l : List Stp} (hc : Chn fr to u l v) (hd : ∀ st, st ∈ l → d (sto fr to st) = d (sfr fr to st) + 1) : (l.map (·.arc)).Nodup := arcs_nodup hc (chn_levels hc hd).1

/-- is v come to from u by steps with room? -/
def Rch (m : Nat) (fr to cap f : Nat → Int) (u v : Int) : Prop := ∃ l, Chn fr to u l v ∧ ∀ st, st ∈ l → st.arc < m ∧ 0 < room cap f st

theorem Rch.refl {m : Nat} {fr to cap f : Nat → Int} (u : Int) : Rch m fr to cap f u u := ⟨[], rfl, by simp⟩
theorem Rch.step {m : Nat} {fr to cap f : Nat → Int} {u : Int} {st : Stp} (h : Rch m fr to cap f u (sfr fr to st)) (ha : st.arc < m) (hr : 0 < room cap f st) : Rch m fr to cap f u (sto fr to st) := by
  obtain ⟨l, hc, hl⟩ := h
  refine ⟨l ++ [st], hc.append ⟨rfl, rfl⟩, fun s hs => ?_⟩
  rcases List.mem_append.1 hs with hs | hs
  · exact hl s hs
  · obtain rfl := List.mem_singleton.1 hs; exact ⟨ha, hr⟩
theorem Rch.trans {m : Nat} {fr to cap f : Nat → Int} {u v w : Int} (h : Rch m fr to cap f u v) (h' : Rch m fr to cap f v w) : Rch m fr to cap f u w := by
  obtain ⟨l, hc, hl⟩ := h
  obtain ⟨k, hc', hk⟩ := h'
  refine ⟨l ++ k, hc.append hc', fun s hs => ?_⟩
  rcases List.mem_append.1 hs with hs | hs
  · exact hl s hs
  · exact hk s hs
/-- what is closed under steps with room holds all that is come to -/
theorem Rch.closed {m : Nat} {fr to cap f : Nat → Int} {u v : Int} (h : Rch m fr to cap f u v) {S : Int → Prop} (hu : S u) (hS : ∀ st : Stp, st.arc < m → 0 < room cap f st → S (sfr fr to st) → S (sto fr to st)) : S v := by
  obtain ⟨l, hc, hl⟩ := h
  induction l generalizing u with
  | nil => cases hc; exact hu
  | cons st l ih =>
    have h1 := hl st (List.mem_cons_self ..)
    exact ih (hS st h1.1 h1.2 (hc.1 ▸ hu)) hc.2 (fun s hs => hl s (List.mem_cons_of_mem _ hs))

theorem Rch.nd {m N : Nat} {fr to cap f : Nat → Int} (hends : ∀ i, i < m → Nd N (fr i) ∧ Nd N (to i)) {u v : Int} (h : Rch m fr to cap f u v) (hu : Nd N u) : Nd N v :=
  h.closed hu fun st ha _ _ => by unfold sto; have := hends _ ha; split; exact this.1; exact this.2

/-- a side that is closed takes what the flow's value is -/
theorem closed_tight {m N : Nat} {fr to cap f : Nat → Int} (hends : ∀ i, i < m → Nd N (fr i) ∧ Nd N (to i)) {s t : Int} (hs : Nd N s) (ht : Nd N t) (hst : s ≠ t)
    (hf : IsFlow m cap f) (hb : Balanced m N fr to s t f) {S : Int → Bool} (hS : S s = true) (hT : S t = false)
    (hcl : ∀ st : Stp, st.arc < m → 0 < room cap f st → S (sfr fr to st) = true → S (sto fr to st) = true) : bal m fr to f s = capOf m fr to cap S := by
  refine flow_eq_cap hends hs ht hst hb hS hT (fun i hi h1 h2 => ?_) (fun i hi h1 h2 => ?_)
  · have h := hcl ⟨i, false⟩ hi
    simp only [room, sfr, sto, if_false, Bool.false_eq_true, h1, h2] at h
    have := hf i hi
    simp at h
    omega
  · have h := hcl ⟨i, true⟩ hi
    simp only [room, sfr, sto, if_true, h1, h2] at h
    have := hf i hi
    by_cases hlt : 0 < f i
    · simp [hlt] at h
    · omega

noncomputable def rset (m : Nat) (fr to cap f : Nat → Int) (s v : Int) : Bool := @decide (Rch m fr to cap f s v) (Classical.propDecidable _)
theorem rset_iff {m : Nat} {fr to cap f : Nat → Int} {s v : Int} : rset m fr to cap f s v = true ↔ Rch m fr to cap f s v := by simp [rset]
theorem rset_false {m : Nat} {fr to cap f : Nat → Int} {s v : Int} : rset m fr to cap f s v = false ↔ ¬ Rch m fr to cap f s v := by simp [rset]

/-- where no way with room leads on, the value is the capacity of the side that is come to -/
theorem max_cut {m N : Nat} {fr to cap f : Nat → Int} (hends : ∀ i, i < m → Nd N (fr i) ∧ Nd N (to i)) {s t : Int} (hs : Nd N s) (ht : Nd N t) (hst : s ≠ t)
    (hf : IsFlow m cap f) (hb : Balanced m N fr to s t f) (hno : ¬ Rch m fr to cap f s t) : bal m fr to f s = capOf m fr to cap (rset m fr to cap f s) :=
  closed_tight hends hs ht hst hf hb (rset_iff.2 (Rch.refl s)) (rset_false.2 hno) fun _ ha hr h => rset_iff.2 ((rset_iff.1 h).step ha hr)

theorem max_flow {m N : Nat} {fr to cap f g : Nat → Int} (hends : ∀ i, i < m → Nd N (fr i) ∧ Nd N (to i)) {s t : Int} (hs : Nd N s) (ht : Nd N t) (hst : s ≠ t)
    (hf : IsFlow m cap f) (hb : Balanced m N fr to s t f) (hno : ¬ Rch m fr to cap f s t) (hg : IsFlow m cap g) (hgb : Balanced m N fr to s t g) : bal m fr to g s ≤ bal m fr to f s := by
  rw [max_cut hends hs ht hst hf hb hno]
  exact flow_le_cap hends hs ht hst hg hgb (rset_iff.2 (Rch.refl s)) (rset_false.2 hno)

/-- the side that is come to lies in each side of as little capacity -/
theorem least_side {m N : Nat} {fr to cap f : Nat → Int} (hends : ∀ i, i < m → Nd N (fr i) ∧ Nd N (to i)) {s t : Int} (hs : Nd N s) (ht : Nd N t) (hst : s ≠ t)
    (hf : IsFlow m cap f) (hb : Balanced m N fr to s t f) {S : Int → Bool} (hS : S s = true) (hT : S t = false) (he : capOf m fr to cap S ≤ bal m fr to f s) {v : Int} (hv : Rch m fr to cap f s v) : S v = true := by
  have h := tight_side hends hs ht hst hf hb hS hT he
  refine hv.closed (S := fun v => S v = true) hS fun st ha hr h1 => ?_
  obtain ⟨h3, h4⟩ := h _ ha
  cases hb' : st.back <;> simp only [hb', room, sfr, sto, if_true, if_false, Bool.false_eq_true] at hr h1 ⊢
  · cases h2 : S (to st.arc)
    · have := h3 h1 h2; omega
    · rfl
  · cases h2 : S (fr st.arc)
    · have := h4 h2 h1; omega
    · rfl

/-- two greatest flows come to the same nodes -/
theorem same_side {m N : Nat} {fr to cap f g : Nat → Int} (hends : ∀ i, i < m → Nd N (fr i) ∧ Nd N (to i)) {s t : Int} (hs : Nd N s) (ht : Nd N t) (hst : s ≠ t)
    (hf : IsFlow m cap f) (hb : Balanced m N fr to s t f) (hno : ¬ Rch m fr to cap f s t) (hg : IsFlow m cap g) (hgb : Balanced m N fr to s t g) (hno' : ¬ Rch m fr to cap g s t) {v : Int} (hv : Rch m fr to cap f s v) : Rch m fr to cap g s v := by
  have e1 := max_cut hends hs ht hst hg hgb hno'
  have e2 := max_flow hends hs ht hst hg hgb hno' hf hb
  have e3 := max_flow hends hs ht hst hf hb hno hg hgb
  exact rset_iff.1 (least_side hends hs ht hst hf hb (S := rset m fr to cap g s) (rset_iff.2 (Rch.refl s)) (rset_false.2 hno') (by omega) hv)

/-- a flow's value is no greater than what the source's arcs take -/
theorem value_le_out {m : Nat} {fr to cap f : Nat → Int} (hf : IsFlow m cap f) (s : Int) : bal m fr to f s ≤ sumTo m (fun i => if fr i = s then cap i else 0) := by
  refine sumTo_le fun i hi => ?_
  have := hf i hi
  split <;> split <;> omega

theorem value_ge_in {m : Nat} {fr to cap f : Nat → Int} (hf : IsFlow m cap f) (t : Int) : - bal m fr to f t ≤ sumTo m (fun i => if to i = t then cap i else 0) := by
  have e : - bal m fr to f t = sumTo m (fun i => (-1) * ((if fr i = t then f i else 0) - (if to i = t then f i else 0))) := by rw [sumTo_mul, bal]; omega
  rw [e]
  refine sumTo_le fun i hi => ?_
  have := hf i hi
  split <;> split <;> omega

end Go.Proofs.Ythbffhlfdjpfaaa
