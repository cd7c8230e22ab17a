/- Slices of slices that a call makes: each row is owned, no two rows share a block. -/
import Derived.Test.YthbffhlfdjpfaaaBase
import Derived.Maps.AppendAt
import Derived.Deep.OwnRows
import Derived.KernelRfl
namespace Go.Proofs.Ythbffhlfdjpfaaa
set_option linter.unusedVariables false
set_option linter.unusedSimpArgs false
open Go.RowKit

def gv (vs : List Value) (i : Nat) : Value := vs.getD i (.slice none 0 0)
def gr {α : Type} (R : List (List α)) (i : Nat) : List α := R.getD i []

structure Rows {α : Type} (w : World) (base : Nat) (e : TypeId) (size : Nat) (enc : α → List Value) (vs : List Value) (R : List (List α)) : Prop where
  len : vs.length = R.length
  own : ∀ v, v < R.length → w.ownsRow base e size (gv vs v) (gr R v).length ((gr R v).flatMap enc)
  apart : ∀ u v, u < R.length → v < R.length → u ≠ v → (gv vs u).ownBlock = none ∨ (gv vs u).ownBlock ≠ (gv vs v).ownBlock

section
variable {α : Type} {w w' : World} {base : Nat} {e : TypeId} {size : Nat} {enc : α → List Value} {vs : List Value} {R : List (List α)}

theorem Rows.fresh (w : World) (base : Nat) (e : TypeId) (size : Nat) (enc : α → List Value) (n : Nat) : Rows w base e size enc (List.replicate n (.slice none 0 0)) (List.replicate n ([] : List α)) := by
  have h1 : ∀ v, gv (List.replicate n (.slice none 0 0)) v = .slice none 0 0 := fun v => by simp [gv, List.getD_eq_getElem?_getD, List.getElem?_replicate]; split <;> rfl
  have h2 : ∀ v, gr (List.replicate n ([] : List α)) v = [] := fun v => by simp [gr, List.getD_eq_getElem?_getD, List.getElem?_replicate]; split <;> rfl
  exact ⟨by simp, fun v _ => by rw [h1, h2]; exact World.ownsRow_nil _ _ _ _, fun u v _ _ _ => .inl (by rw [h1]; rfl)⟩

/-- the world turns, but none of the rows' blocks -/
theorem Rows.kept (h : Rows w base e size enc vs R) (hb : ∀ k, base ≤ k → k < w.heap.size → w'.heap[k]? = w.heap[k]?) : Rows w' base e size enc vs R :=
  ⟨h.len, fun v hv => by
    obtain ⟨h1, h2⟩ := h.own v hv
    refine ⟨h1, ?_⟩
    rcases h2 with h2 | ⟨g, cap, cur, he, hg, hh, r⟩
    · exact .inl h2
    · exact .inr ⟨g, cap, cur, he, hg, by rw [hb g hg (heap_lt hh)]; exact hh, r⟩, h.apart⟩
theorem Rows.alloc (h : Rows w base e size enc vs R) (o : Obj) : Rows (w.alloc o) base e size enc vs R := h.kept fun k _ hk => Below.heap_alloc _ _ _ hk
theorem Rows.drew (h : Rows w base e size enc vs R) : Rows w.drew base e size enc vs R := h.kept fun _ _ _ => rfl
theorem Rows.set (h : Rows w base e size enc vs R) {p : Addr} (hp : p.block < base) (u : Value) : Rows (w.setCell p u) base e size enc vs R := h.kept fun k hk _ => Below.heap_setCell _ _ _ _ (by omega)
theorem Rows.below (h : Rows w base e size enc vs R) (hb : Below w.heap.size w w') : Rows w' base e size enc vs R := h.kept fun k _ hk => hb.block k hk

theorem gv_set_self {vs : List Value} {i : Nat} (hi : i < vs.length) (x : Value) : gv (vs.set i x) i = x := by simp [gv, List.getD_eq_getElem?_getD, hi]
theorem gv_set_ne {vs : List Value} {i j : Nat} (hij : i ≠ j) (x : Value) : gv (vs.set i x) j = gv vs j := by simp [gv, List.getD_eq_getElem?_getD, List.getElem?_set, hij]
theorem gr_set_self {R : List (List α)} {i : Nat} (hi : i < R.length) (x : List α) : gr (R.set i x) i = x := by simp [gr, List.getD_eq_getElem?_getD, hi]
theorem gr_set_ne {R : List (List α)} {i j : Nat} (hij : i ≠ j) (x : List α) : gr (R.set i x) j = gr R j := by simp [gr, List.getD_eq_getElem?_getD, List.getElem?_set, hij]

/-- behind an append to row i -/
theorem Rows.append (h : Rows w base e size enc vs R) {i : Nat} (hi : i < R.length) {v1 : Value} {x : α} {n : Nat} (hn : n = (gr R i).length + 1) {l : List Value} (hl : l = (gr R i).flatMap enc ++ enc x) (hown : w'.ownsRow base e size v1 n l)
    (hg : w.grownBy w' (gv vs i).ownBlock) (hat : v1.ownBlock = (gv vs i).ownBlock ∨ v1.ownBlock = some w.heap.size) : Rows w' base e size enc (vs.set i v1) (R.set i (gr R i ++ [x])) := by
  have hiv : i < vs.length := by rw [h.len]; exact hi
  subst hn hl
  refine ⟨by simp [h.len], fun v hv => ?_, fun u v hu hv huv => ?_⟩
  · by_cases hvi : i = v
    · subst hvi
      rw [gv_set_self hiv, gr_set_self hi]
      simpa using hown
    · rw [gv_set_ne hvi, gr_set_ne hvi]
      have hv' : v < R.length := by simpa using hv
      exact (h.own v hv').kept hg (h.apart v i hv' hi (Ne.symm hvi))
  · have hu' : u < R.length := by simpa using hu
    have hv' : v < R.length := by simpa using hv
    have old : ∀ k, k < R.length → (gv vs k).ownBlock ≠ some w.heap.size := fun k hk e => by have := (h.own k hk).lt _ e; omega
    by_cases hui : i = u
    · subst hui
      rw [gv_set_self hiv, gv_set_ne huv]
      rcases hat with hat | hat
      · rw [hat]; exact h.apart i v hi hv' huv
      · rw [hat]; exact .inr fun e => old v hv' e.symm
    · rw [gv_set_ne hui]
      by_cases hvi : i = v
      · subst hvi
        rw [gv_set_self hiv]
        rcases hat with hat | hat
        · rw [hat]; exact h.apart u i hu' hi huv
        · rw [hat]; exact .inr (old u hu')
      · rw [gv_set_ne hvi]; exact h.apart u v hu' hv' huv
end

/-- the rows of ints, read -/
def RdLI (w : World) (ok : Nat → Prop) (A : Option Addr) (R : List (List Int)) : Prop :=
  ∀ v, v < R.length → ∃ b off A' c', A = some ⟨b, off, none⟩ ∧ ok b ∧ w.cell? ⟨b, off + v, none⟩ = some (.slice A' (gr R v).length c') ∧ (gr R v).length ≤ c' ∧ RdI w ok A' (gr R v)
def RdLS (w : World) (ok : Nat → Prop) (A : Option Addr) (R : List (List Stp)) : Prop :=
  ∀ v, v < R.length → ∃ b off A' c', A = some ⟨b, off, none⟩ ∧ ok b ∧ w.cell? ⟨b, off + v, none⟩ = some (.slice A' (gr R v).length c') ∧ (gr R v).length ≤ c' ∧ RdS w ok A' (gr R v)

section
variable {w w' : World} {S ok ok' : Nat → Prop} {A : Option Addr}
theorem RdLI.fr {R : List (List Int)} (h : RdLI w ok A R) (hf : Fr S w w') (hn : ∀ k, ok k → ¬ S k) : RdLI w' ok A R := fun v hv => by
  obtain ⟨b, off, A', c', e, hb, hc, hl, hr⟩ := h v hv
  exact ⟨b, off, A', c', e, hb, hf.at hc (hn b hb), hl, hr.fr hf hn⟩
theorem RdLS.fr {R : List (List Stp)} (h : RdLS w ok A R) (hf : Fr S w w') (hn : ∀ k, ok k → ¬ S k) : RdLS w' ok A R := fun v hv => by
  obtain ⟨b, off, A', c', e, hb, hc, hl, hr⟩ := h v hv
  exact ⟨b, off, A', c', e, hb, hf.at hc (hn b hb), hl, hr.fr hf hn⟩
theorem RdLI.mono {R : List (List Int)} (h : RdLI w ok A R) (hn : ∀ k, k < w.heap.size → ok k → ok' k) : RdLI w ok' A R := fun v hv => by
  obtain ⟨b, off, A', c', e, hb, hc, hl, hr⟩ := h v hv
  exact ⟨b, off, A', c', e, hn b (World.block_lt_of_cell? w _ hc) hb, hc, hl, hr.mono hn⟩
theorem RdLS.mono {R : List (List Stp)} (h : RdLS w ok A R) (hn : ∀ k, k < w.heap.size → ok k → ok' k) : RdLS w ok' A R := fun v hv => by
  obtain ⟨b, off, A', c', e, hb, hc, hl, hr⟩ := h v hv
  exact ⟨b, off, A', c', e, hn b (World.block_lt_of_cell? w _ hc) hb, hc, hl, hr.mono hn⟩
end

/-- an owned row reads -/
theorem own_shape {w : World} {base : Nat} {e : TypeId} {size : Nat} {v : Value} {n : Nat} {xs : List Value} (h : w.ownsRow base e size v n xs) : ∃ A c, v = .slice A n c ∧ n ≤ c ∧ (0 < n → ∃ g, A = some ⟨g, 0, none⟩ ∧ base ≤ g ∧ ∀ j u, xs[j]? = some u → w.cell? ⟨g, j, none⟩ = some u) := by
  rcases h.2 with ⟨rfl, rfl⟩ | ⟨g, cap, cur, rfl, hb, _, hc, _⟩
  · exact ⟨none, 0, rfl, Nat.le_refl _, fun h => absurd h (by omega)⟩
  · refine ⟨_, cap, rfl, hc, fun _ => ⟨g, rfl, hb, fun j u hu => ?_⟩⟩
    have := h.cells (g := g) rfl j u hu
    have hadd : (⟨g, 0, none⟩ : Addr).add j = ⟨g, j, none⟩ := by unfold Addr.add; split <;> simp_all
    rwa [hadd] at this
def enc1 (x : Int) : List Value := [.int .i64 x]
def enc2 (s : Stp) : List Value := [.int .i64 (s.arc : Int), .bool s.back]
theorem enc1_map (xs : List Int) : xs.flatMap enc1 = encI xs := by simp [encI, enc1, List.flatMap_singleton' ] <;> (induction xs <;> simp_all [enc1])
theorem enc2_map (l : List Stp) : l.flatMap enc2 = encS l := rfl
theorem own_rdI {w : World} {base : Nat} {e : TypeId} {v : Value} {xs : List Int} (h : w.ownsRow base e 1 v xs.length (xs.flatMap enc1)) : ∃ A c, v = .slice A xs.length c ∧ xs.length ≤ c ∧ RdI w (fun k => base ≤ k) A xs := by
  obtain ⟨A, c, rfl, hc, hr⟩ := own_shape h
  refine ⟨A, c, rfl, hc, fun i hi => ?_⟩
  obtain ⟨g, rfl, hb, hg⟩ := hr (by omega)
  refine ⟨g, 0, rfl, hb, hg _ _ ?_⟩
  rw [enc1_map]; simp [encI, List.getElem?_eq_getElem hi, List.getD_eq_getElem?_getD]
theorem own_rdS {w : World} {base : Nat} {e : TypeId} {v : Value} {xs : List Stp} (h : w.ownsRow base e 2 v xs.length (xs.flatMap enc2)) : ∃ A c, v = .slice A xs.length c ∧ xs.length ≤ c ∧ RdS w (fun k => base ≤ k) A xs := by
  obtain ⟨A, c, rfl, hc, hr⟩ := own_shape h
  refine ⟨A, c, rfl, hc, fun i hi => ?_⟩
  obtain ⟨g, rfl, hb, hg⟩ := hr (by omega)
  have he := encS_get xs i hi
  rw [← enc2_map] at he
  exact ⟨g, 0, rfl, hb, by rw [Nat.zero_add]; exact hg _ _ he.1, by rw [Nat.zero_add]; exact hg _ _ he.2⟩
theorem Rows.rdLI {w : World} {base b0 : Nat} {e T : TypeId} {vs : List Value} {R : List (List Int)} (h : Rows w base e 1 enc1 vs R) (hB : Blk w b0 T vs) (hb : b0 ≤ base) : RdLI w (fun k => b0 ≤ k) (some ⟨b0, 0, none⟩) R := fun v hv => by
  obtain ⟨A, c, e, hc, hr⟩ := own_rdI (h.own v hv)
  refine ⟨b0, 0, A, c, rfl, Nat.le_refl _, ?_, hc, hr.mono fun k _ hk => Nat.le_trans hb hk⟩
  rw [Nat.zero_add]
  refine hB.cell v ?_
  have hv' : v < vs.length := by rw [h.len]; exact hv
  rw [List.getElem?_eq_getElem hv', ← e]
  simp [gv, List.getD_eq_getElem?_getD, List.getElem?_eq_getElem hv']
theorem Rows.rdLS {w : World} {base b0 : Nat} {e T : TypeId} {vs : List Value} {R : List (List Stp)} (h : Rows w base e 2 enc2 vs R) (hB : Blk w b0 T vs) (hb : b0 ≤ base) : RdLS w (fun k => b0 ≤ k) (some ⟨b0, 0, none⟩) R := fun v hv => by
  obtain ⟨A, c, e, hc, hr⟩ := own_rdS (h.own v hv)
  refine ⟨b0, 0, A, c, rfl, Nat.le_refl _, ?_, hc, hr.mono fun k _ hk => Nat.le_trans hb hk⟩
  rw [Nat.zero_add]
  refine hB.cell v ?_
  have hv' : v < vs.length := by rw [h.len]; exact hv
  rw [List.getElem?_eq_getElem hv', ← e]
  simp [gv, List.getD_eq_getElem?_getD, List.getElem?_eq_getElem hv']

/-! ### rows of the types' table, and what is made -/
theorem info3 : (Try.prog.info? 3).map (fun i => (i.zero, i.size, i.bytes)) = some (some (.int .i64 0), 1, 8) := by kernel_rfl
theorem info4 : (Try.prog.info? 4).map (fun i => (i.zero, i.size, i.bytes)) = some (some (.bool false), 1, 1) := by kernel_rfl
theorem info25 : (Try.prog.info? 25).map (fun i => (i.zero, i.size, i.bytes)) = some (some (.slice none 0 0), 1, 24) := by kernel_rfl
theorem info56 : (Try.prog.info? 56).map (fun i => (i.zero, i.size, i.bytes)) = some (some (.slice none 0 0), 1, 24) := by kernel_rfl
theorem info102 : (Try.prog.info? 102).map (fun i => (i.zero, i.size, i.bytes)) = some (some (.agg #[.int .i64 0, .bool false]), 2, 16) := by kernel_rfl
theorem made_list (z : Value) (n : Nat) : madeCells #[z] n = (List.replicate n z).toArray := by rw [← toList_madeCells_one]
theorem Blk.made (w : World) (z : Value) (n : Nat) (T : TypeId) : Blk (w.alloc (.cells (madeCells #[z] n) T)) w.heap.size T (List.replicate n z) := by rw [made_list]; exact Blk.new w _ T

theorem mk1 {P : Program} (t e : TypeId) (z : Value) (bytes : Nat) (ht : P.underlying t = some (.slice e)) (hinfo : (P.info? e).map (fun i => (i.zero, i.size, i.bytes)) = some (some z, 1, bytes)) (hz : z.cells = #[z]) (hb0 : 0 < bytes)
    (m : Nat) (hn : m * bytes ≤ 281474976710656) :
    ∀ W : World, (Instr.makeSlice t (.int .i64 (m : Int)) (.int .i64 (m : Int))).run P W = .ok (.slice (some ⟨W.heap.size, 0, none⟩) m m) (W.alloc (.cells (madeCells #[z] m) e)) := by
  intro W
  have hm : m ≤ 281474976710656 := Nat.le_trans (Nat.le_mul_of_pos_right _ hb0) hn
  have h := Go.run_make_row' t e z bytes ht hinfo hz .i64 .i64 m (by rw [Nat.mul_comm]; exact hn) (by omega) W
  exact h

end Go.Proofs.Ythbffhlfdjpfaaa
