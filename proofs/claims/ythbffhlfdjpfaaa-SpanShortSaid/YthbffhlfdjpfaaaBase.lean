/- Words for the walks: rows of memory that are read, blocks that are owned, what a call may change. -/
import Derived.Test.YthbffhlfdjpfaaaProg
import Derived.Test.YthbffhlfdjpfaaaMb
import Derived.WalkKit
import Derived.WalkSpells
import Derived.WalkLawsBesides
import Derived.Lib.Hide
namespace Go.Proofs.Ythbffhlfdjpfaaa
set_option linter.unusedVariables false
set_option linter.unusedSimpArgs false
open Go.RowKit

/-! ### what a call may change -/
/-- of the old blocks those of S alone may have turned -/
structure Fr (S : Nat → Prop) (w w' : World) : Prop where
  os : w'.os = w.os
  tape : w'.tape = w.tape
  output : w'.output = w.output
  size : w.heap.size ≤ w'.heap.size
  block : ∀ k, k < w.heap.size → ¬ S k → w'.heap[k]? = w.heap[k]?

def NoB (_ : Nat) : Prop := False
def OneB (b : Nat) (k : Nat) : Prop := k = b

theorem Fr.refl (S : Nat → Prop) (w : World) : Fr S w w := ⟨rfl, rfl, rfl, Nat.le_refl _, fun _ _ _ => rfl⟩
theorem Fr.trans {S : Nat → Prop} {a b c : World} (h : Fr S a b) (k : Fr S b c) : Fr S a c :=
  ⟨k.os.trans h.os, k.tape.trans h.tape, k.output.trans h.output, Nat.le_trans h.size k.size,
    fun i hi hn => (k.block i (Nat.lt_of_lt_of_le hi h.size) hn).trans (h.block i hi hn)⟩
theorem Fr.mono {S T : Nat → Prop} {w w' : World} (h : Fr S w w') (hS : ∀ k, k < w.heap.size → S k → T k) : Fr T w w' :=
  ⟨h.os, h.tape, h.output, h.size, fun k hk hn => h.block k hk fun hs => hn (hS k hk hs)⟩
/-- two steps: what the second may change is new, or may be changed -/
theorem Fr.then {S T : Nat → Prop} {a b c : World} (h : Fr S a b) (k : Fr T b c) (hT : ∀ i, i < a.heap.size → T i → S i) : Fr S a c :=
  ⟨k.os.trans h.os, k.tape.trans h.tape, k.output.trans h.output, Nat.le_trans h.size k.size,
    fun i hi hn => (k.block i (Nat.lt_of_lt_of_le hi h.size) fun ht => hn (hT i hi ht)).trans (h.block i hi hn)⟩
theorem Fr.alloc {S : Nat → Prop} {a w : World} (h : Fr S a w) (o : Obj) : Fr S a (w.alloc o) :=
  h.trans ⟨rfl, rfl, rfl, by simp, fun k hk _ => Below.heap_alloc _ _ _ hk⟩
theorem Fr.drew {S : Nat → Prop} {a w : World} (h : Fr S a w) : Fr S a w.drew := ⟨h.os, h.tape, h.output, h.size, h.block⟩
theorem Fr.drewN {S : Nat → Prop} {a w : World} (h : Fr S a w) (n : Nat) : Fr S a (w.drewN n) := ⟨h.os, h.tape, h.output, h.size, h.block⟩
theorem Fr.setCell {S : Nat → Prop} {a w : World} (h : Fr S a w) {p : Addr} (hp : S p.block ∨ a.heap.size ≤ p.block) (u : Value) : Fr S a (w.setCell p u) :=
  ⟨h.os, h.tape, h.output, by simpa [World.setCell] using h.size, fun k hk hn => by
    rw [Below.heap_setCell _ _ _ _ (by rintro rfl; rcases hp with hp | hp; exact hn hp; omega)]; exact h.block k hk hn⟩
theorem Fr.of_below {S : Nat → Prop} {w w' : World} (h : Below w.heap.size w w') : Fr S w w' := ⟨h.os, h.tape, h.output, h.size, fun k hk _ => h.block k hk⟩
theorem Fr.below {S : Nat → Prop} {w w' : World} {B : Nat} (h : Fr S w w') (hB : B ≤ w.heap.size) (hS : ∀ k, k < B → ¬ S k) : Below B w w' :=
  ⟨h.os, h.tape, h.output, h.size, fun k hk => h.block k (by omega) (hS k hk)⟩
theorem Fr.grown {S : Nat → Prop} {a w w' : World} {row : Option Nat} (h : Fr S a w) (hg : w.grownBy w' row) (hr : ∀ k, row = some k → S k ∨ a.heap.size ≤ k) : Fr S a w' :=
  ⟨hg.os.trans h.os, hg.tape.trans h.tape, hg.output.trans h.output, Nat.le_trans h.size hg.size, fun k hk hn => by
    rw [hg.block k (Nat.lt_of_lt_of_le hk h.size) (fun e => by rcases hr k e.symm with h | h; exact hn h; omega)]; exact h.block k hk hn⟩
theorem Fr.cell {S : Nat → Prop} {w w' : World} (h : Fr S w w') {p : Addr} (hp : p.block < w.heap.size) (hn : ¬ S p.block) : w'.cell? p = w.cell? p := World.cell?_of_block (w := w) (h.block p.block hp hn)
theorem Fr.frozen {S : Nat → Prop} {w w' : World} (h : Fr S w w') {p : Addr} (hp : p.block < w.heap.size) (hn : ¬ S p.block) : w'.frozen? p = w.frozen? p := World.frozen?_of_block (w := w) (h.block p.block hp hn)
theorem Fr.at {S : Nat → Prop} {w w' : World} (h : Fr S w w') {p : Addr} {v : Value} (hc : w.cell? p = some v) (hn : ¬ S p.block) : w'.cell? p = some v := (h.cell (World.block_lt_of_cell? w p hc) hn).trans hc
theorem heap_lt {w : World} {b : Nat} {o : Obj} (h : w.heap[b]? = some o) : b < w.heap.size := (Array.getElem?_eq_some_iff.1 h).1
theorem Fr.blk {S : Nat → Prop} {w w' : World} (h : Fr S w w') {b : Nat} {o : Obj} (hb : w.heap[b]? = some o) (hn : ¬ S b) : w'.heap[b]? = some o := (h.block b (heap_lt hb) hn).trans hb
/-- all old cells that may not have turned, in the walk's form -/
theorem Fr.cells {S : Nat → Prop} {w w' : World} (h : Fr S w w') : ∀ b o, b < w.heap.size → ¬ S b → w'.cell? ⟨b, o, none⟩ = w.cell? ⟨b, o, none⟩ := fun _ _ hb hn => h.cell (p := ⟨_, _, none⟩) hb hn
theorem below_cells {W w1 : World} (hb : Below W.heap.size W w1) : ∀ b o, b < W.heap.size → w1.cell? ⟨b, o, none⟩ = W.cell? ⟨b, o, none⟩ := fun b o h => hb.cell (p := ⟨b, o, none⟩) h
theorem below_free {W w1 : World} (hb : Below W.heap.size W w1) : ∀ b o, b < W.heap.size → w1.frozen? ⟨b, o, none⟩ = W.frozen? ⟨b, o, none⟩ := fun b o h => hb.frozen (p := ⟨b, o, none⟩) h

/-! ### blocks whose cells are known -/
/-- block b holds just these cells -/
def Blk (w : World) (b : Nat) (T : TypeId) (vs : List Value) : Prop := w.heap[b]? = some (.cells vs.toArray T (0, 0))
theorem Blk.lt {w : World} {b : Nat} {T : TypeId} {vs : List Value} (h : Blk w b T vs) : b < w.heap.size := heap_lt h
theorem Blk.cell {w : World} {b : Nat} {T : TypeId} {vs : List Value} (h : Blk w b T vs) (i : Nat) {v : Value} (hv : vs[i]? = some v) : w.cell? ⟨b, i, none⟩ = some v := by
  have h' : w.heap[b]? = some (.cells vs.toArray T (0, 0)) := h
  simp [World.cell?, h', hv]
theorem Blk.free {w : World} {b : Nat} {T : TypeId} {vs : List Value} (h : Blk w b T vs) (i : Nat) : w.frozen? ⟨b, i, none⟩ = false := by
  have h' : w.heap[b]? = some (.cells vs.toArray T (0, 0)) := h
  simp [World.frozen?, h']
theorem Blk.new (w : World) (vs : List Value) (T : TypeId) : Blk (w.alloc (.cells vs.toArray T)) w.heap.size T vs := heap_alloc_new w _
theorem Blk.alloc {w : World} {b : Nat} {T : TypeId} {vs : List Value} (h : Blk w b T vs) (o : Obj) : Blk (w.alloc o) b T vs := (Below.heap_alloc _ _ _ h.lt).trans h
theorem Blk.drew {w : World} {b : Nat} {T : TypeId} {vs : List Value} (h : Blk w b T vs) : Blk w.drew b T vs := h
theorem Blk.drewN {w : World} {b : Nat} {T : TypeId} {vs : List Value} (h : Blk w b T vs) (n : Nat) : Blk (w.drewN n) b T vs := h
theorem Blk.far {w : World} {b : Nat} {T : TypeId} {vs : List Value} (h : Blk w b T vs) {p : Addr} (hp : b ≠ p.block) (u : Value) : Blk (w.setCell p u) b T vs := (Below.heap_setCell _ _ _ _ hp).trans h
theorem Blk.set {w : World} {b : Nat} {T : TypeId} {vs : List Value} (h : Blk w b T vs) (i : Nat) (u : Value) : Blk (w.setCell ⟨b, i, none⟩ u) b T (vs.set i u) := by
  have h' : w.heap[b]? = some (.cells vs.toArray T (0, 0)) := h
  simp [Blk, World.setCell, Array.getElem?_modify, h']
theorem Blk.fr {S : Nat → Prop} {w w' : World} {b : Nat} {T : TypeId} {vs : List Value} (h : Blk w b T vs) (hf : Fr S w w') (hn : ¬ S b) : Blk w' b T vs := hf.blk h hn
theorem Blk.below {w w' : World} {b : Nat} {T : TypeId} {vs : List Value} (h : Blk w b T vs) (hf : Below w.heap.size w w') : Blk w' b T vs := (hf.block b h.lt).trans h
theorem Blk.grown {w w' : World} {b : Nat} {T : TypeId} {vs : List Value} {row : Option Nat} (h : Blk w b T vs) (hg : w.grownBy w' row) (hn : some b ≠ row) : Blk w' b T vs := (hg.block b h.lt hn).trans h

/-! ### data in memory -/
structure Arc where
  fr : Int
  to : Int
  cap : Int
  tm : Int
deriving DecidableEq, Inhabited

def frs (L : List Arc) (i : Nat) : Int := (L.getD i default).fr
def tos (L : List Arc) (i : Nat) : Int := (L.getD i default).to
def caps (L : List Arc) (i : Nat) : Int := (L.getD i default).cap
def tms (L : List Arc) (i : Nat) : Int := (L.getD i default).tm
def fls (f : List Int) (i : Nat) : Int := f.getD i 0
def stp (l : List Stp) (i : Nat) : Stp := l.getD i default

def encI (xs : List Int) : List Value := xs.map (.int .i64)
def encB (xs : List Bool) : List Value := xs.map .bool
def encS (l : List Stp) : List Value := l.flatMap fun s => [.int .i64 (s.arc : Int), .bool s.back]

/-- ints that are read -/
def RdI (w : World) (ok : Nat → Prop) (A : Option Addr) (xs : List Int) : Prop :=
  ∀ i, i < xs.length → ∃ b off, A = some ⟨b, off, none⟩ ∧ ok b ∧ w.cell? ⟨b, off + i, none⟩ = some (.int .i64 (xs.getD i 0))
def RdB (w : World) (ok : Nat → Prop) (A : Option Addr) (xs : List Bool) : Prop :=
  ∀ i, i < xs.length → ∃ b off, A = some ⟨b, off, none⟩ ∧ ok b ∧ w.cell? ⟨b, off + i, none⟩ = some (.bool (xs.getD i false))
def RdA (w : World) (ok : Nat → Prop) (A : Option Addr) (L : List Arc) : Prop :=
  ∀ i, i < L.length → ∃ b off, A = some ⟨b, off, none⟩ ∧ ok b ∧ w.cell? ⟨b, off + i * 4, none⟩ = some (.int .i64 (frs L i)) ∧ w.cell? ⟨b, off + i * 4 + 1, none⟩ = some (.int .i64 (tos L i)) ∧
    w.cell? ⟨b, off + i * 4 + 2, none⟩ = some (.int .i64 (caps L i)) ∧ w.cell? ⟨b, off + i * 4 + 3, none⟩ = some (.int .i64 (tms L i))
def RdS (w : World) (ok : Nat → Prop) (A : Option Addr) (l : List Stp) : Prop :=
  ∀ i, i < l.length → ∃ b off, A = some ⟨b, off, none⟩ ∧ ok b ∧ w.cell? ⟨b, off + i * 2, none⟩ = some (.int .i64 ((stp l i).arc : Int)) ∧ w.cell? ⟨b, off + i * 2 + 1, none⟩ = some (.bool (stp l i).back)

section
variable {w w' : World} {S ok ok' : Nat → Prop} {A : Option Addr}
theorem RdI.fr {xs : List Int} (h : RdI w ok A xs) (hf : Fr S w w') (hn : ∀ k, ok k → ¬ S k) : RdI w' ok A xs := fun i hi => by
  obtain ⟨b, off, e, hb, hc⟩ := h i hi
  exact ⟨b, off, e, hb, hf.at hc (hn b hb)⟩
theorem RdB.fr {xs : List Bool} (h : RdB w ok A xs) (hf : Fr S w w') (hn : ∀ k, ok k → ¬ S k) : RdB w' ok A xs := fun i hi => by
  obtain ⟨b, off, e, hb, hc⟩ := h i hi
  exact ⟨b, off, e, hb, hf.at hc (hn b hb)⟩
theorem RdA.fr {L : List Arc} (h : RdA w ok A L) (hf : Fr S w w') (hn : ∀ k, ok k → ¬ S k) : RdA w' ok A L := fun i hi => by
  obtain ⟨b, off, e, hb, h0, h1, h2, h3⟩ := h i hi
  exact ⟨b, off, e, hb, hf.at h0 (hn b hb), hf.at h1 (hn b hb), hf.at h2 (hn b hb), hf.at h3 (hn b hb)⟩
theorem RdS.fr {l : List Stp} (h : RdS w ok A l) (hf : Fr S w w') (hn : ∀ k, ok k → ¬ S k) : RdS w' ok A l := fun i hi => by
  obtain ⟨b, off, e, hb, h0, h1⟩ := h i hi
  exact ⟨b, off, e, hb, hf.at h0 (hn b hb), hf.at h1 (hn b hb)⟩
theorem RdI.mono {xs : List Int} (h : RdI w ok A xs) (hn : ∀ k, k < w.heap.size → ok k → ok' k) : RdI w ok' A xs := fun i hi => by
  obtain ⟨b, off, e, hb, hc⟩ := h i hi
  exact ⟨b, off, e, hn b (World.block_lt_of_cell? w _ hc) hb, hc⟩
theorem RdA.mono {L : List Arc} (h : RdA w ok A L) (hn : ∀ k, k < w.heap.size → ok k → ok' k) : RdA w ok' A L := fun i hi => by
  obtain ⟨b, off, e, hb, hc, h⟩ := h i hi
  exact ⟨b, off, e, hn b (World.block_lt_of_cell? w _ hc) hb, hc, h⟩
theorem RdS.mono {l : List Stp} (h : RdS w ok A l) (hn : ∀ k, k < w.heap.size → ok k → ok' k) : RdS w ok' A l := fun i hi => by
  obtain ⟨b, off, e, hb, hc, h⟩ := h i hi
  exact ⟨b, off, e, hn b (World.block_lt_of_cell? w _ hc) hb, hc, h⟩
theorem RdB.mono {xs : List Bool} (h : RdB w ok A xs) (hn : ∀ k, k < w.heap.size → ok k → ok' k) : RdB w ok' A xs := fun i hi => by
  obtain ⟨b, off, e, hb, hc⟩ := h i hi
  exact ⟨b, off, e, hn b (World.block_lt_of_cell? w _ hc) hb, hc⟩
end

/-- a block of ints reads as them -/
theorem Blk.rdI {w : World} {b : Nat} {T : TypeId} {xs : List Int} (h : Blk w b T (encI xs)) {ok : Nat → Prop} (hb : ok b) : RdI w ok (some ⟨b, 0, none⟩) xs := fun i hi =>
  ⟨b, 0, rfl, hb, by rw [Nat.zero_add]; exact h.cell i (by simp [encI, List.getElem?_eq_getElem hi, List.getD_eq_getElem?_getD])⟩
theorem Blk.rdB {w : World} {b : Nat} {T : TypeId} {xs : List Bool} (h : Blk w b T (encB xs)) {ok : Nat → Prop} (hb : ok b) : RdB w ok (some ⟨b, 0, none⟩) xs := fun i hi =>
  ⟨b, 0, rfl, hb, by rw [Nat.zero_add]; exact h.cell i (by simp [encB, List.getElem?_eq_getElem hi, List.getD_eq_getElem?_getD])⟩
theorem encI_set (xs : List Int) (i : Nat) (x : Int) : (encI xs).set i (.int .i64 x) = encI (xs.set i x) := by simp [encI, List.map_set]
theorem encB_set (xs : List Bool) (i : Nat) (x : Bool) : (encB xs).set i (.bool x) = encB (xs.set i x) := by simp [encB, List.map_set]
theorem encS_len (l : List Stp) : (encS l).length = l.length * 2 := by
  induction l with
  | nil => rfl
  | cons s l ih => simp only [encS, List.flatMap_cons, List.length_append, List.length_cons, List.length_nil] at ih ⊢; omega
theorem encS_get (l : List Stp) (i : Nat) (hi : i < l.length) : (encS l)[i * 2]? = some (.int .i64 ((stp l i).arc : Int)) ∧ (encS l)[i * 2 + 1]? = some (.bool (stp l i).back) := by
  induction l generalizing i with
  | nil => simp at hi
  | cons s l ih =>
    cases i with
    | zero => simp [encS, stp]
    | succ i =>
      have h := ih i (by simpa using hi)
      have e : encS (s :: l) = .int .i64 (s.arc : Int) :: .bool s.back :: encS l := rfl
      rw [e, show (i + 1) * 2 = i * 2 + 1 + 1 by omega]
      simpa [stp] using h
theorem Blk.rdS {w : World} {b : Nat} {T : TypeId} {l : List Stp} (h : Blk w b T (encS l)) {ok : Nat → Prop} (hb : ok b) : RdS w ok (some ⟨b, 0, none⟩) l := fun i hi =>
  ⟨b, 0, rfl, hb, by rw [Nat.zero_add]; exact h.cell _ (encS_get l i hi).1, by rw [Nat.zero_add]; exact h.cell _ (encS_get l i hi).2⟩

end Go.Proofs.Ythbffhlfdjpfaaa
