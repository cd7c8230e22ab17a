/- The rounds that make times less: where they stand. -/
import Derived.Test.YthbffhlfdjpfaaaMc
import Derived.Test.YthbffhlfdjpfaaaW8
namespace Go.Proofs.Ythbffhlfdjpfaaa
set_option linter.unusedVariables false
set_option linter.unusedSimpArgs false
open Go.RowKit

def lI (D : List Int) (v : Int) : Int := if v < 0 then 0 else D.getD v.toNat 0
def lB (I : List Bool) (v : Int) : Bool := if v < 0 then false else I.getD v.toNat false
def lS (B : List Stp) (v : Int) : Stp := if v < 0 then default else B.getD v.toNat default
theorem lI_set {D : List Int} {w : Nat} (h : w < D.length) (x : Int) : lI (D.set w x) = upd (lI D) (w : Int) x := by
  funext v
  by_cases hv : v = (w : Int)
  · subst hv; rw [upd_self]; simp [lI, List.getD_eq_getElem?_getD, h] <;> omega
  · rw [upd_ne _ hv]
    unfold lI
    split
    · rfl
    · simp [List.getD_eq_getElem?_getD, List.getElem?_set, show w ≠ v.toNat by omega]
theorem lB_set {I : List Bool} {w : Nat} (h : w < I.length) (x : Bool) : lB (I.set w x) = upd (lB I) (w : Int) x := by
  funext v
  by_cases hv : v = (w : Int)
  · subst hv; rw [upd_self]; simp [lB, List.getD_eq_getElem?_getD, h] <;> omega
  · rw [upd_ne _ hv]
    unfold lB
    split
    · rfl
    · simp [List.getD_eq_getElem?_getD, List.getElem?_set, show w ≠ v.toNat by omega]
theorem lS_set {B : List Stp} {w : Nat} (h : w < B.length) (x : Stp) : lS (B.set w x) = upd (lS B) (w : Int) x := by
  funext v
  by_cases hv : v = (w : Int)
  · subst hv; rw [upd_self]; simp [lS, List.getD_eq_getElem?_getD, h] <;> omega
  · rw [upd_ne _ hv]
    unfold lS
    split
    · rfl
    · simp [List.getD_eq_getElem?_getD, List.getElem?_set, show w ≠ v.toNat by omega]
theorem lI_nat (D : List Int) (v : Nat) : lI D (v : Int) = D.getD v 0 := by simp [lI] <;> omega
theorem lB_nat (I : List Bool) (v : Nat) : lB I (v : Int) = I.getD v false := by simp [lB] <;> omega
theorem lS_nat (B : List Stp) (v : Nat) : lS B (v : Int) = stp B v := by simp [lS, stp] <;> omega

/-- a network that is right, a flow within it -/
structure Net (L : List Arc) (N : Nat) (f : List Int) : Prop where
  n0 : 0 < N
  n1 : N ≤ 50
  len : L.length ≤ 200
  ends : ∀ i, i < L.length → Nd N (frs L i) ∧ Nd N (tos L i)
  cap : ∀ i, i < L.length → 0 ≤ caps L i ∧ caps L i ≤ 1048576
  tm : ∀ i, i < L.length → 0 ≤ tms L i ∧ tms L i ≤ 1048576
  flen : f.length = L.length
  flow : IsFlow L.length (caps L) (fls f)

set_option maxHeartbeats 400000 in
theorem steps_at {w : World} (nd : Int) (hd : Bool) (A F : Value) (N c v bT oT n c' : Nat) (A' : Option Addr) (hc : w.cell? ⟨bT, oT + v, none⟩ = some (.slice A' n c')) (hv : v < N) (hN : N ≤ 50) :
    Calls Try.prog 134 #[.agg #[.int .i64 nd, .bool hd, A, F, .slice (some ⟨bT, oT, none⟩) N c], .int .i64 (v : Int)] w fun e w' => e = .returned (.slice A' n c') ∧ Below w.heap.size w w' := by
  have hbl := World.block_lt_of_cell? _ _ hc
  go_enter Try.func134, Try.ntmps134
  go_wp2
  go_ret
  exact ⟨rfl, one_new⟩

set_option maxHeartbeats 400000 in
theorem steps_calls {w : World} {ok : Nat → Prop} {T : Option Addr} {L : List Arc} {N : Nat} {R : List (List Stp)} (nd : Int) (hd : Bool) (A F : Value) (c v : Nat) (hT : RdAt w ok T L N R) (hv : v < N) (hN : N ≤ 50) :
    ∃ b off A' c', T = some ⟨b, off, none⟩ ∧ (gr R v).length ≤ c' ∧ RdS w ok A' (gr R v) ∧
    Calls Try.prog 134 #[.agg #[.int .i64 nd, .bool hd, A, F, .slice T N c], .int .i64 (v : Int)] w fun e w' => e = .returned (.slice A' (gr R v).length c') ∧ Below w.heap.size w w' := by
  obtain ⟨b, off, A', c', rfl, hb, hc, hl, hr⟩ := hT.rd v (by rw [hT.len]; exact hv)
  have hbl := World.block_lt_of_cell? _ _ hc
  refine ⟨b, off, A', c', rfl, hl, hr, ?_⟩
  have HR := Lib.hid hr
  clear hr hT
  go_enter Try.func134, Try.ntmps134
  go_wp2
  go_ret
  exact ⟨rfl, one_new⟩

def Tri (a b c k : Nat) : Prop := k = a ∨ k = b ∨ k = c
/-- the memory of the rounds: the two boxes, the times, what is come to, the steps -/
structure BfM (w wr : World) (N : Nat) (xv rv : List Value) (bD bI bB : Nat) (D : List Int) (I : List Bool) (B : List Stp) : Prop where
  fr : Fr (Tri bD bI bB) w wr
  x : Blk wr w.heap.size 137 xv
  r : Blk wr (w.heap.size + 1) 93 rv
  d : Blk wr bD 3 (encI D)
  i : Blk wr bI 4 (encB I)
  b : Blk wr bB 102 (encS B)
  lD : D.length = N
  lI : I.length = N
  lB : B.length = N
  lt : bD < w.heap.size ∧ bI < w.heap.size ∧ bB < w.heap.size
  ne : bD ≠ bI ∧ bD ≠ bB ∧ bI ≠ bB
section
variable {w wr w1 : World} {N : Nat} {xv rv : List Value} {bD bI bB : Nat} {D : List Int} {I : List Bool} {B : List Stp}
theorem BfM.step (h : BfM w wr N xv rv bD bI bB D I B) (hb : Below wr.heap.size wr w1) : BfM w w1 N xv rv bD bI bB D I B :=
  ⟨h.fr.trans (Fr.of_below hb), h.x.below hb, h.r.below hb, h.d.below hb, h.i.below hb, h.b.below hb, h.lD, h.lI, h.lB, h.lt, h.ne⟩
theorem BfM.cellD (h : BfM w wr N xv rv bD bI bB D I B) {v : Nat} (hv : v < N) : wr.cell? ⟨bD, v, none⟩ = some (.int .i64 (Go.Proofs.Ythbffhlfdjpfaaa.lI D (v : Int))) := by
  refine h.d.cell v ?_
  rw [lI_nat]
  have hl : v < D.length := by rw [h.lD]; exact hv
  simp [encI, List.getElem?_eq_getElem hl, List.getD_eq_getElem?_getD]
theorem BfM.cellI (h : BfM w wr N xv rv bD bI bB D I B) {v : Nat} (hv : v < N) : wr.cell? ⟨bI, v, none⟩ = some (.bool (Go.Proofs.Ythbffhlfdjpfaaa.lB I (v : Int))) := by
  refine h.i.cell v ?_
  rw [lB_nat]
  have hl : v < I.length := by rw [h.lI]; exact hv
  simp [encB, List.getElem?_eq_getElem hl, List.getD_eq_getElem?_getD]
theorem BfM.cellB (h : BfM w wr N xv rv bD bI bB D I B) {v : Nat} (hv : v < N) : wr.cell? ⟨bB, v * 2, none⟩ = some (.int .i64 ((stp B v).arc : Int)) ∧ wr.cell? ⟨bB, v * 2 + 1, none⟩ = some (.bool (stp B v).back) :=
  ⟨h.b.cell _ (encS_get B v (by rw [h.lB]; exact hv)).1, h.b.cell _ (encS_get B v (by rw [h.lB]; exact hv)).2⟩
/-- behind the three stores -/
theorem BfM.put (h : BfM w wr N xv rv bD bI bB D I B) {v : Nat} (hv : v < N) (d : Int) (st : Stp) :
    BfM w ((((wr.setCell ⟨bD, v, none⟩ (.int .i64 d)).setCell ⟨bI, v, none⟩ (.bool true)).setCell ⟨bB, v * 2, none⟩ (.int .i64 (st.arc : Int))).setCell ⟨bB, v * 2 + 1, none⟩ (.bool st.back)).drew N xv rv bD bI bB (D.set v d) (I.set v true) (B.set v st) := by
  obtain ⟨l1, l2, l3⟩ := h.lt
  obtain ⟨n1, n2, n3⟩ := h.ne
  refine ⟨((((h.fr.setCell (p := ⟨bD, v, none⟩) (.inl (.inl rfl)) _).setCell (p := ⟨bI, v, none⟩) (.inl (.inr (.inl rfl))) _).setCell (p := ⟨bB, v * 2, none⟩) (.inl (.inr (.inr rfl))) _).setCell (p := ⟨bB, v * 2 + 1, none⟩) (.inl (.inr (.inr rfl))) _).drew,
    ((((h.x.far (show w.heap.size ≠ bD by omega) _).far (show w.heap.size ≠ bI by omega) _).far (show w.heap.size ≠ bB by omega) _).far (show w.heap.size ≠ bB by omega) _).drew,
    ((((h.r.far (show w.heap.size + 1 ≠ bD by omega) _).far (show w.heap.size + 1 ≠ bI by omega) _).far (show w.heap.size + 1 ≠ bB by omega) _).far (show w.heap.size + 1 ≠ bB by omega) _).drew,
    ?_, ?_, ?_, by rw [List.length_set]; exact h.lD, by rw [List.length_set]; exact h.lI, by rw [List.length_set]; exact h.lB, h.lt, h.ne⟩
  · rw [← encI_set]; exact ((((h.d.set v _).far (show bD ≠ bI from n1) _).far (show bD ≠ bB from n2) _).far (show bD ≠ bB from n2) _).drew
  · rw [← encB_set]; exact ((((h.i.far (show bI ≠ bD from Ne.symm n1) _).set v _).far (show bI ≠ bB from n3) _).far (show bI ≠ bB from n3) _).drew
  · rw [← encS_set B v (by rw [h.lB]; exact hv)]; exact ((((h.b.far (show bB ≠ bD from Ne.symm n2) _).far (show bB ≠ bI from Ne.symm n3) _).set (v * 2) _).set (v * 2 + 1) _).drew
end

theorem endsTo_in {g : Nat → Int} {k v i : Nat} (hi : i < k) (hg : g i = (v : Int)) : (i : Int) ∈ endsTo g k v := List.mem_map.2 ⟨i, List.mem_filter.2 ⟨by simpa using hi, by simpa using hg⟩, rfl⟩
theorem stepsOf_iff {L : List Arc} {u : Nat} {st : Stp} : st ∈ stepsOf L u ↔ st.arc < L.length ∧ sfr (frs L) (tos L) st = (u : Int) := by
  constructor
  · intro h
    rcases List.mem_append.1 h with h | h
    · obtain ⟨x, hx, rfl⟩ := List.mem_map.1 h
      obtain ⟨i, rfl, hi, hg⟩ := endsTo_mem hx
      exact ⟨by simpa [fwd] using hi, by simpa [fwd, sfr] using hg⟩
    · obtain ⟨x, hx, rfl⟩ := List.mem_map.1 h
      obtain ⟨i, rfl, hi, hg⟩ := endsTo_mem hx
      exact ⟨by simpa [bck] using hi, by simpa [bck, sfr] using hg⟩
  · rintro ⟨h1, h2⟩
    obtain ⟨i, b⟩ := st
    cases b
    · exact List.mem_append.2 (.inl (List.mem_map.2 ⟨(i : Int), endsTo_in h1 (by simpa [sfr] using h2), by simp [fwd]⟩))
    · exact List.mem_append.2 (.inr (List.mem_map.2 ⟨(i : Int), endsTo_in h1 (by simpa [sfr] using h2), by simp [bck]⟩))
theorem row_iff {w : World} {ok : Nat → Prop} {T : Option Addr} {L : List Arc} {N : Nat} {R : List (List Stp)} (h : RdAt w ok T L N R) {u : Nat} (hu : u < N) {st : Stp} : st ∈ gr R u ↔ st.arc < L.length ∧ sfr (frs L) (tos L) st = (u : Int) := (h.perm u hu).mem_iff.trans stepsOf_iff

/-- rows hold the steps of their nodes -/
def RowsOk (L : List Arc) (N : Nat) (R : List (List Stp)) : Prop := ∀ u, u < N → ∀ st, st ∈ gr R u ↔ st.arc < L.length ∧ sfr (frs L) (tos L) st = (u : Int)

/-- a round: nodes below v are done; nothing turned yet where b holds -/
structure Rnd (L : List Arc) (N : Nat) (f : List Int) (s : Int) (R : List (List Stp)) (k v : Nat) (D : List Int) (I : List Bool) (B : List Stp) (b : Bool) : Prop where
  bf : BFI L.length N (frs L) (tos L) (caps L) (fls f) (tms L) s (lI D) (lB I) (lS B)
  rk : Rk L.length (frs L) (tos L) (caps L) (fls f) (tms L) s k (lI D) (lB I)
  dn : ∀ u, u < v → ∀ st, st ∈ gr R u → Ok L.length (caps L) (fls f) st → Dn L.length (frs L) (tos L) (caps L) (fls f) (tms L) s k (lI D) (lB I) st
  tt : b = true → ∀ u, u < v → ∀ st, st ∈ gr R u → Ok L.length (caps L) (fls f) st → Tt (frs L) (tos L) (tms L) (lI D) (lB I) st
  more : b = false → k + 1 < N
/-- within a node's steps -/
structure RndI (L : List Arc) (N : Nat) (f : List Int) (s : Int) (R : List (List Stp)) (k v j : Nat) (D : List Int) (I : List Bool) (B : List Stp) (b : Bool) : Prop extends Rnd L N f s R k v D I B b where
  is : lB I (v : Int) = true
  dnj : ∀ st, st ∈ (gr R v).take j → Ok L.length (caps L) (fls f) st → Dn L.length (frs L) (tos L) (caps L) (fls f) (tms L) s k (lI D) (lB I) st
  ttj : b = true → ∀ st, st ∈ (gr R v).take j → Ok L.length (caps L) (fls f) st → Tt (frs L) (tos L) (tms L) (lI D) (lB I) st

section
variable {L : List Arc} {N : Nat} {f : List Int} {s : Int} {R : List (List Stp)} {k v j : Nat} {D : List Int} {I : List Bool} {B : List Stp} {b : Bool}
theorem Rnd.first (h1 : BFI L.length N (frs L) (tos L) (caps L) (fls f) (tms L) s (lI D) (lB I) (lS B)) (h2 : Rk L.length (frs L) (tos L) (caps L) (fls f) (tms L) s k (lI D) (lB I)) : Rnd L N f s R k 0 D I B true :=
  ⟨h1, h2, fun u hu => absurd hu (by omega), fun _ u hu => absurd hu (by omega), fun h => by cases h⟩
theorem Rnd.skip (h : Rnd L N f s R k v D I B b) (hr : RowsOk L N R) (hv : v < N) (hi : lB I (v : Int) = false) : Rnd L N f s R k (v + 1) D I B b := by
  refine ⟨h.bf, h.rk, fun u hu st hst ho => ?_, fun hb u hu st hst ho => ?_, h.more⟩
  · rcases Nat.lt_or_ge u v with h1 | h1
    · exact h.dn u h1 st hst ho
    · have e : u = v := by omega
      subst e
      have e := ((hr u hv st).1 hst).2
      intro l hl hn
      rw [e] at hl
      have := (h.rk l _ hl hn).1
      rw [hi] at this; cases this
  · rcases Nat.lt_or_ge u v with h1 | h1
    · exact h.tt hb u h1 st hst ho
    · have e : u = v := by omega
      subst e
      have e := ((hr u hv st).1 hst).2
      intro hs
      rw [e, hi] at hs; cases hs
theorem Rnd.enter (h : Rnd L N f s R k v D I B b) (hi : lB I (v : Int) = true) : RndI L N f s R k v 0 D I B b :=
  ⟨h, hi, fun st hst => by simp at hst, fun _ st hst => by simp at hst⟩
theorem mem_take_succ {l : List Stp} {j : Nat} (hj : j < l.length) {st : Stp} (h : st ∈ l.take (j + 1)) : st ∈ l.take j ∨ st = stp l j := by
  rw [take_stp l j hj] at h
  rcases List.mem_append.1 h with h | h
  · exact .inl h
  · exact .inr (List.mem_singleton.1 h)
theorem stp_mem {l : List Stp} {j : Nat} (hj : j < l.length) : stp l j ∈ l := by simp [stp, List.getD_eq_getElem?_getD, List.getElem?_eq_getElem hj]
/-- nothing to do at this step -/
theorem RndI.tight (h : RndI L N f s R k v j D I B b) (hj : j < (gr R v).length) (ht : Ok L.length (caps L) (fls f) (stp (gr R v) j) → Tt (frs L) (tos L) (tms L) (lI D) (lB I) (stp (gr R v) j)) : RndI L N f s R k v (j + 1) D I B b := by
  refine ⟨h.toRnd, h.is, fun st hst ho => ?_, fun hb st hst ho => ?_⟩
  · rcases mem_take_succ hj hst with hst | rfl
    · exact h.dnj st hst ho
    · exact Dn.of_tt h.rk (ht ho)
  · rcases mem_take_succ hj hst with hst | rfl
    · exact h.ttj hb st hst ho
    · exact ht ho
/-- a time made less -/
theorem RndI.relax (h : RndI L N f s R k v j D I B b) (hn : Net L N f) {p : Int → Int} (hp : Feas L.length (frs L) (tos L) (caps L) (fls f) (tms L) p) (hr : RowsOk L N R) (hv : v < N) (hj : j < (gr R v).length) (lD : D.length = N) (lI' : I.length = N) (lB' : B.length = N)
    (hk : k + 1 ≤ N) (ho : Ok L.length (caps L) (fls f) (stp (gr R v) j)) {x : Nat} (hx : sto (frs L) (tos L) (stp (gr R v) j) = (x : Int)) {d : Int} (hd : d = lI D (v : Int) + stm (tms L) (stp (gr R v) j)) (hc : lB I (x : Int) = false ∨ d < lI D (x : Int)) :
    RndI L N f s R k v (j + 1) (D.set x d) (I.set x true) (B.set x (stp (gr R v) j)) false := by
  have hsf : sfr (frs L) (tos L) (stp (gr R v) j) = (v : Int) := ((hr v hv _).1 (stp_mem hj)).2
  have hxN : x < N := by
    have h1 : Nd N (sto (frs L) (tos L) (stp (gr R v) j)) := by unfold sto; have := hn.ends _ ho.1; split; exact this.1; exact this.2
    rw [hx] at h1
    obtain ⟨_, h2⟩ := h1
    omega
  have e1 : lI (D.set x d) = upd (lI D) (sto (frs L) (tos L) (stp (gr R v) j)) (lI D (sfr (frs L) (tos L) (stp (gr R v) j)) + stm (tms L) (stp (gr R v) j)) := by rw [lI_set (by omega), hx, hsf, hd]
  have e2 : lB (I.set x true) = upd (lB I) (sto (frs L) (tos L) (stp (gr R v) j)) true := by rw [lB_set (by omega), hx]
  have e3 : lS (B.set x (stp (gr R v) j)) = upd (lS B) (sto (frs L) (tos L) (stp (gr R v) j)) (stp (gr R v) j) := by rw [lS_set (by omega), hx]
  have his : lB I (sfr (frs L) (tos L) (stp (gr R v) j)) = true := by rw [hsf]; exact h.is
  have hcc : lB I (sto (frs L) (tos L) (stp (gr R v) j)) = false ∨ lI D (sfr (frs L) (tos L) (stp (gr R v) j)) + stm (tms L) (stp (gr R v) j) < lI D (sto (frs L) (tos L) (stp (gr R v) j)) := by
    rw [hx, hsf, ← hd]; exact hc
  have hle : Les (lI D) (lB I) (lI (D.set x d)) (lB (I.set x true)) := by rw [e1, e2]; exact Les.relax hcc
  refine ⟨⟨?_, hle.rk h.rk, fun u hu st hst ho => hle.dn (h.dn u hu st hst ho), (fun hb => by cases hb), fun _ => ?_⟩, (hle _ h.is).1, fun st hst ho' => ?_, fun hb => by cases hb⟩
  · rw [e1, e2, e3]; exact h.bf.relax hp hn.ends hn.tm ho his hcc
  · rcases Nat.lt_or_ge (k + 1) N with h1 | h1
    · exact h1
    · exact (h.bf.last hp hn.ends h.rk h1 ho his hcc).elim
  · rcases mem_take_succ hj hst with hst | rfl
    · exact hle.dn (h.dnj st hst ho')
    · rw [e1, e2]; exact Dn.relaxed h.rk
theorem RndI.leave (h : RndI L N f s R k v j D I B b) (hj : (gr R v).length ≤ j) : Rnd L N f s R k (v + 1) D I B b := by
  have e : (gr R v).take j = gr R v := List.take_of_length_le hj
  refine ⟨h.bf, h.rk, fun u hu st hst ho => ?_, fun hb u hu st hst ho => ?_, h.more⟩
  · rcases Nat.lt_or_ge u v with h1 | h1
    · exact h.dn u h1 st hst ho
    · have e' : u = v := by omega
      subst e'
      exact h.dnj st (by rw [e]; exact hst) ho
  · rcases Nat.lt_or_ge u v with h1 | h1
    · exact h.tt hb u h1 st hst ho
    · have e' : u = v := by omega
      subst e'
      exact h.ttj hb st (by rw [e]; exact hst) ho
theorem Rnd.all (hn : Net L N f) (hr : RowsOk L N R) {P : Stp → Prop} (h : ∀ u, u < N → ∀ st, st ∈ gr R u → Ok L.length (caps L) (fls f) st → P st) : ∀ st, Ok L.length (caps L) (fls f) st → P st := by
  intro st ho
  have h1 : Nd N (sfr (frs L) (tos L) st) := by unfold sfr; have := hn.ends _ ho.1; split; exact this.2; exact this.1
  obtain ⟨u, hu⟩ := Int.eq_ofNat_of_zero_le h1.1
  have h2 := h1.2
  exact h u (by omega) st ((hr u (by omega) st).2 ⟨ho.1, hu⟩) ho
theorem Rnd.next (h : Rnd L N f s R k N D I B b) (hn : Net L N f) (hr : RowsOk L N R) : Rk L.length (frs L) (tos L) (caps L) (fls f) (tms L) s (k + 1) (lI D) (lB I) := Rk.succ h.bf (Rnd.all hn hr h.dn)
theorem Rnd.final (h : Rnd L N f s R k N D I B true) (hn : Net L N f) (hr : RowsOk L N R) : ∀ st, Ok L.length (caps L) (fls f) st → Tt (frs L) (tos L) (tms L) (lI D) (lB I) st := Rnd.all hn hr (h.tt rfl)
end

end Go.Proofs.Ythbffhlfdjpfaaa
