/- Reading a small network out of bytes: a right network, two nodes that differ, a short horizon; no condition. -/
import Derived.Test.YthbffhlfdjpfaaaW24
import Derived.Test.YthbffhlfdjpfaaaOp
import Derived.Deep.AppendLies
import Derived.Deep.DeepCutAuto
import Derived.Deep.DrawnRows
import Derived.Deep.RegionLaw
import Derived.Deep.RegionHeld3
namespace Go.Proofs.Ythbffhlfdjpfaaa
set_option linter.unusedVariables false
set_option linter.unusedSimpArgs false
open Go.ChangeShapes Go.WideShapes Go.ChangeAt Go.RowKit Go.Deep Go.Joins

def byt (x : Int) : Prop := 0 ≤ x ∧ x ≤ 255
theorem byt_of {n : Int} (h : (Lit.int .u8 n).wf = true) : byt n := by
  simp [Lit.wf, IntKind.min, IntKind.max, IntKind.signed, IntKind.bits] at h; unfold byt; omega
/-- a small network as bytes -/
structure Sm where
  nd : Int
  hd : Bool
  A : Option Addr
  K : List Arc
  c : Nat
  s : Int
  t : Int
  h : Int
def Sm.cells (x : Sm) : List Value := [.int .u8 x.nd, .bool x.hd, .slice x.A x.K.length x.c, .int .u8 x.s, .int .u8 x.t, .int .u8 x.h]
def Sm.val (x : Sm) : Value := .agg x.cells.toArray
def RdU (w : World) (A : Option Addr) (K : List Arc) : Prop := ∀ i, i < K.length → ∃ b off, A = some ⟨b, off, none⟩ ∧ w.cell? ⟨b, off + i * 4, none⟩ = some (.int .u8 (frs K i)) ∧ w.cell? ⟨b, off + i * 4 + 1, none⟩ = some (.int .u8 (tos K i)) ∧ w.cell? ⟨b, off + i * 4 + 2, none⟩ = some (.int .u8 (caps K i)) ∧ w.cell? ⟨b, off + i * 4 + 3, none⟩ = some (.int .u8 (tms K i)) ∧ byt (frs K i) ∧ byt (tos K i) ∧ byt (caps K i) ∧ byt (tms K i)
structure SmOk (w : World) (x : Sm) : Prop where
  nd : byt x.nd
  s : byt x.s
  t : byt x.t
  h : byt x.h
  rd : RdU w x.A x.K
theorem RdU.below {w w' : World} {A : Option Addr} {K : List Arc} (h : RdU w A K) (hb : Below w.heap.size w w') : RdU w' A K := fun i hi => by
  obtain ⟨b, off, e, c0, c1, c2, c3, r⟩ := h i hi
  exact ⟨b, off, e, cell_kept hb c0, cell_kept hb c1, cell_kept hb c2, cell_kept hb c3, r⟩
theorem SmOk.below {w w' : World} {x : Sm} (h : SmOk w x) (hb : Below w.heap.size w w') : SmOk w' x := ⟨h.nd, h.s, h.t, h.h, h.rd.below hb⟩

section
variable {H : Type} {enc : TypeId × Value → H} {P : Program} {w : World} {base : Nat} {spare : Nat → Bool} {held : Bool}
theorem open_agg6 {r : Reach} {b0 : Nat} {t : TypeId} {f0 f1 f2 f3 f4 f5 : Field} {v : Value} {d : DataW H} {p : List MemPlace} (hs : P.underlying t = some (.struct #[f0, f1, f2, f3, f4, f5])) (hone : oneCellFields P #[f0, f1, f2, f3, f4, f5] = true) (hC : P.cellsOf t = 6)
    (hv : Value.okWide P w r b0 t v) (h : DataW.Trod enc P w base spare held t v d p) :
    ∃ (v0 v1 v2 v3 v4 v5 : Value) (y0 y1 y2 y3 y4 y5 : DataW H × List MemPlace) (n : Nat), v = .agg #[v0, v1, v2, v3, v4, v5] ∧
      DataW.trod enc P w base spare held n f0.type [v0] = some y0 ∧ DataW.trod enc P w base spare held n f1.type [v1] = some y1 ∧ DataW.trod enc P w base spare held n f2.type [v2] = some y2 ∧ DataW.trod enc P w base spare held n f3.type [v3] = some y3 ∧ DataW.trod enc P w base spare held n f4.type [v4] = some y4 ∧ DataW.trod enc P w base spare held n f5.type [v5] = some y5 := by
  obtain ⟨cs, rfl, hsz⟩ := okWide_struct hs hv
  obtain ⟨l⟩ := cs
  match l, hsz.trans hC with
  | [c0, c1, c2, c3, c4, c5], _ =>
    obtain ⟨fuel, hf⟩ := h
    obtain ⟨xs, n, _, hx, _, hlen, hg⟩ := DataW.trod_struct hs hf
    obtain ⟨o0, k0⟩ := hone_of hone 0 f0 rfl
    obtain ⟨o1, k1⟩ := hone_of hone 1 f1 rfl
    obtain ⟨o2, k2⟩ := hone_of hone 2 f2 rfl
    obtain ⟨o3, k3⟩ := hone_of hone 3 f3 rfl
    obtain ⟨o4, k4⟩ := hone_of hone 4 f4 rfl
    obtain ⟨o5, k5⟩ := hone_of hone 5 f5 rfl
    match xs, hlen with
    | [y0, y1, y2, y3, y4, y5], _ =>
      exact ⟨c0, c1, c2, c3, c4, c5, y0, y1, y2, y3, y4, y5, n, rfl, by simpa [Value.cells, o0, k0] using hg 0 f0 rfl, by simpa [Value.cells, o1, k1] using hg 1 f1 rfl, by simpa [Value.cells, o2, k2] using hg 2 f2 rfl, by simpa [Value.cells, o3, k3] using hg 3 f3 rfl, by simpa [Value.cells, o4, k4] using hg 4 f4 rfl, by simpa [Value.cells, o5, k5] using hg 5 f5 rfl⟩
end

section
variable {H : Type} {enc : TypeId × Value → H} {w : World}
theorem open_bytes {fuel : Nat} {cs : List Value} {x : DataW H × List MemPlace} (h : DataW.trod enc Try.prog w 0 (fun _ => true) true fuel 43 cs = some x) :
    ∃ (A : Option Addr) (K : List Arc) (c : Nat), cs = [.slice A K.length c] ∧ RdU w A K := by
  rcases open_slice_fields Try.underlying43 Try.underlying104 (by kernel_rfl) (by kernel_rfl) h with ⟨rfl, rfl⟩ | ⟨a, len, cap, m, D, Pl, rfl, _, hl, hm, hmm, rfl, hi⟩
  · exact ⟨none, [], 0, rfl, fun i hi => absurd hi (by simp)⟩
  · simp only [if_true] at hmm
    subst hmm
    have hex : ∀ i : Nat, ∃ g : Arc, i < m → (w.cell? (a.add (i * 4)) = some (.int .u8 g.fr) ∧ w.cell? (a.add (i * 4 + 1)) = some (.int .u8 g.to) ∧ w.cell? (a.add (i * 4 + 2)) = some (.int .u8 g.cap) ∧ w.cell? (a.add (i * 4 + 3)) = some (.int .u8 g.tm)) ∧ byt g.fr ∧ byt g.to ∧ byt g.cap ∧ byt g.tm := by
      intro i
      by_cases him : i < m
      · obtain ⟨ys, n, _, _, _, hf⟩ := hi i him
        obtain ⟨v0, y0, c0, _, t0⟩ := hf 0 _ rfl
        obtain ⟨v1, y1, c1, _, t1⟩ := hf 1 _ rfl
        obtain ⟨v2, y2, c2, _, t2⟩ := hf 2 _ rfl
        obtain ⟨v3, y3, c3, _, t3⟩ := hf 3 _ rfl
        obtain ⟨n0, e0, _, b0⟩ := DataW.trod_int Try.underlying5 t0
        obtain ⟨n1, e1, _, b1⟩ := DataW.trod_int Try.underlying5 t1
        obtain ⟨n2, e2, _, b2⟩ := DataW.trod_int Try.underlying5 t2
        obtain ⟨n3, e3, _, b3⟩ := DataW.trod_int Try.underlying5 t3
        simp only [List.cons.injEq, and_true] at e0 e1 e2 e3
        subst e0 e1 e2 e3
        exact ⟨⟨n0, n1, n2, n3⟩, fun _ => ⟨⟨c0, c1, c2, c3⟩, byt_of b0, byt_of b1, byt_of b2, byt_of b3⟩⟩
      · exact ⟨default, fun h => absurd h him⟩
    obtain ⟨g, hg⟩ := Classical.axiomOfChoice hex
    refine ⟨some a, (List.range len).map g, m, by simp, fun i hi => ?_⟩
    have hi' : i < len := by simpa using hi
    obtain ⟨⟨c0, c1, c2, c3⟩, r⟩ := hg i (by omega)
    obtain ⟨b, off, spot⟩ := a
    have hspot : spot = none := by simpa [Addr.add] using World.cell?_spot (hg 0 (by omega)).1.1
    subst hspot
    have e : ((List.range len).map g).getD i default = g i := by simp [List.getD_eq_getElem?_getD, hi']
    rw [add_none] at c0 c1 c2 c3
    unfold frs tos caps tms
    rw [e]
    exact ⟨b, off, rfl, c0, c1, c2, c3, r⟩
set_option maxRecDepth 100000 in
theorem open_small {base : Nat} {v : Value} {d : DataW H} {p : List MemPlace} (hval : Value.okWide Try.prog w .any base 45 v) (h : DataW.Trod enc Try.prog w 0 (fun _ => true) true 45 v d p) :
    ∃ x : Sm, v = x.val ∧ SmOk w x := by
  obtain ⟨v0, v1, v2, v3, v4, v5, y0, y1, y2, y3, y4, y5, n, rfl, t0, t1, t2, t3, t4, t5⟩ := open_agg6 Try.underlying45 (by kernel_rfl) (by kernel_rfl) hval h
  obtain ⟨n0, e0, _, b0⟩ := DataW.trod_int Try.underlying5 t0
  obtain ⟨n1, e1, _⟩ := DataW.trod_bool Try.underlying4 t1
  obtain ⟨A, K, c, e2, hA⟩ := open_bytes t2
  obtain ⟨n3, e3, _, b3⟩ := DataW.trod_int Try.underlying5 t3
  obtain ⟨n4, e4, _, b4⟩ := DataW.trod_int Try.underlying5 t4
  obtain ⟨n5, e5, _, b5⟩ := DataW.trod_int Try.underlying5 t5
  simp only [List.cons.injEq, and_true] at e0 e1 e2 e3 e4 e5
  subst e0 e1 e2 e3 e4 e5
  exact ⟨⟨n0, n1, A, K, c, n3, n4, n5⟩, rfl, ⟨byt_of b0, byt_of b3, byt_of b4, byt_of b5, hA⟩⟩
end

theorem info49 : (Try.prog.info? 49).map (fun i => (i.zero, i.size, i.bytes)) = some (some (.agg #[.int .i64 0, .int .i64 0, .int .i64 0, .int .i64 0]), 4, 32) := by kernel_rfl

/-- within the reading: what was appended so far -/
structure SmI (w wr : World) (N : Nat) (x : Sm) (V : Value) (M : List Arc) : Prop where
  below : Below w.heap.size w wr
  bx : Blk wr w.heap.size 45 x.cells
  r : Blk wr (w.heap.size + 1) 24 [.int .i64 0, .bool false, .slice none 0 0]
  b : Blk wr (w.heap.size + 2) 24 [.int .i64 (N : Int), .bool x.hd, V]
  own : wr.ownsRow (w.heap.size + 3) 49 4 V M.length (encA M)
  ok : ArcsOk M N
  small : ∀ a, a ∈ M → a.cap ≤ 5 ∧ a.tm ≤ 3
theorem SmI.step {w wr w1 : World} {N : Nat} {x : Sm} {V : Value} {M : List Arc} (h : SmI w wr N x V M) (hb : Below wr.heap.size wr w1) : SmI w w1 N x V M :=
  ⟨below_then' h.below hb, h.bx.below hb, h.r.below hb, h.b.below hb, own_below h.own hb, h.ok, h.small⟩
theorem SmI.lowb {w wr : World} {N : Nat} {x : Sm} {V : Value} {M : List Arc} (h : SmI w wr N x V M) {k : Nat} (hk : V.ownBlock = some k) : w.heap.size + 3 ≤ k := (h.own.lt k hk).1
theorem SmI.grown {w wr w1 : World} {N : Nat} {x : Sm} {V : Value} {M : List Arc} (h : SmI w wr N x V M) (hg : wr.grownBy w1 V.ownBlock) : Blk w1 (w.heap.size + 2) 24 [.int .i64 (N : Int), .bool x.hd, V] :=
  h.b.grown hg fun e => by have := h.lowb e.symm; omega
theorem SmI.more {w wr w1 : World} {N : Nat} {x : Sm} {V V1 : Value} {M : List Arc} {a : Arc} {n : Nat} {l : List Value} (h : SmI w wr N x V M) (hn : n = M.length + 1) (hl : l = encA M ++ enc4 a) (hown : w1.ownsRow (w.heap.size + 3) 49 4 V1 n l) (hg : wr.grownBy w1 V.ownBlock)
    (ha : (Nd N a.fr ∧ Nd N a.to) ∧ (0 ≤ a.cap ∧ a.cap ≤ 5) ∧ (0 ≤ a.tm ∧ a.tm ≤ 3)) : SmI w (w1.setCell ⟨w.heap.size + 2, 2, none⟩ V1) N x V1 (M ++ [a]) := by
  have hs := h.below.size
  have hsz := h.b.lt
  have hne : ∀ k, k < w.heap.size + 3 → some k ≠ V.ownBlock := fun k hk e => by have := h.lowb e.symm; omega
  refine ⟨(h.below.grown hg hs fun k hk => by have := h.lowb hk; omega).setCell (p := ⟨w.heap.size + 2, 2, none⟩) (show w.heap.size ≤ w.heap.size + 2 by omega) _, (h.bx.grown hg (hne _ (by omega))).far (show w.heap.size ≠ w.heap.size + 2 by omega) _, (h.r.grown hg (hne _ (by omega))).far (show w.heap.size + 1 ≠ w.heap.size + 2 by omega) _,
    (h.b.grown hg (hne _ (by omega))).set 2 V1, ?_, ?_, ?_⟩
  · subst hn hl
    have := ownsRow_setCell_below hown (a := ⟨w.heap.size + 2, 2, none⟩) (show w.heap.size + 2 < w.heap.size + 3 by omega) V1
    simpa [encA] using this
  · intro b hb
    rcases List.mem_append.1 hb with hb | hb
    · exact h.ok b hb
    · obtain rfl := List.mem_singleton.1 hb
      exact ⟨ha.1, ⟨ha.2.1.1, by omega⟩, ⟨ha.2.2.1, by omega⟩⟩
  · intro b hb
    rcases List.mem_append.1 hb with hb | hb
    · exact h.small b hb
    · obtain rfl := List.mem_singleton.1 hb
      exact ⟨ha.2.1.2, ha.2.2.2⟩

theorem SmI.more' {w wr w1 : World} {N : Nat} {x : Sm} {V V1 : Value} {M : List Arc} {q0 q1 q2 q3 : Int} {b : Nat} (h : SmI w wr N x V M) (hb : b = w.heap.size + 2) (hown : w1.ownsRow (w.heap.size + 3) 49 4 V1 (M.length + 1) (encA M ++ [.int .i64 q0, .int .i64 q1, .int .i64 q2, .int .i64 q3])) (hg : wr.grownBy w1 V.ownBlock)
    (ha : (Nd N q0 ∧ Nd N q1) ∧ (0 ≤ q2 ∧ q2 < (6 : Nat)) ∧ (0 ≤ q3 ∧ q3 < (4 : Nat))) : Hid (SmI w (w1.setCell ⟨b, 2, none⟩ V1) N x V1 (M ++ [⟨q0, q1, q2, q3⟩])) := by
  subst hb
  exact h.more (a := ⟨q0, q1, q2, q3⟩) rfl rfl hown hg ⟨ha.1, ⟨ha.2.1.1, by have := ha.2.1.2; show q2 ≤ 5; omega⟩, ⟨ha.2.2.1, by have := ha.2.2.2; show q3 ≤ 3; omega⟩⟩

def ReadPost (w : World) (x : Sm) (k : Nat) (e : Ending) (w' : World) : Prop :=
  ∃ (N : Nat) (M : List Arc) (A : Option Addr) (c : Nat) (s t h : Int), e = .returned (.tuple #[.agg #[.int .i64 (N : Int), .bool x.hd, .slice A M.length c], .int .i64 s, .int .i64 t, .int .i64 h]) ∧ RdA w' (fun b => w.heap.size ≤ b) A M ∧ M.length ≤ c ∧ M.length ≤ k ∧ Right M N ∧ N ≤ 5 ∧ Nd N s ∧ Nd N t ∧ s ≠ t ∧ 0 ≤ h ∧ h ≤ 7 ∧ (∀ a, a ∈ M → a.cap ≤ 5 ∧ a.tm ≤ 3) ∧ Below w.heap.size w w'

theorem RdA.own {w : World} {base : Nat} {V : Value} {M : List Arc} (h : w.ownsRow base 49 4 V M.length (encA M)) : ∃ A c, V = .slice A M.length c ∧ M.length ≤ c ∧ RdA w (fun b => base ≤ b) A M := by
  obtain ⟨A, c, e, hc, hr⟩ := own_shape h
  refine ⟨A, c, e, hc, fun i hi => ?_⟩
  obtain ⟨g, rfl, hb, hcell⟩ := hr (by omega)
  obtain ⟨h0, h1, h2, h3⟩ := encA_get M i hi
  refine ⟨g, 0, rfl, hb, ?_, ?_, ?_, ?_⟩
  · rw [Nat.zero_add]; exact hcell _ _ h0
  · rw [Nat.zero_add]; exact hcell _ _ h1
  · rw [Nat.zero_add]; exact hcell _ _ h2
  · rw [Nat.zero_add]; exact hcell _ _ h3

theorem byt_mod {x : Int} (h : byt x) {n : Nat} (hn : 0 < n) : ∃ r : Int, x.tmod (n : Int) = r ∧ 0 ≤ r ∧ r < n := by
  refine ⟨_, rfl, ?_, ?_⟩
  · rw [Int.tmod_eq_emod_of_nonneg h.1]; exact Int.emod_nonneg _ (by omega)
  · rw [Int.tmod_eq_emod_of_nonneg h.1]; exact Int.emod_lt_of_pos _ (by omega)
theorem SmI.ret {w wr : World} {N : Nat} {x : Sm} {V : Value} {M : List Arc} (h : SmI w wr N x V M) (d : Nat) (a b c : Value) :
    Blk ((((wr.drewN d).setCell ⟨w.heap.size + 1, 0, none⟩ a).setCell ⟨w.heap.size + 1, 1, none⟩ b).setCell ⟨w.heap.size + 1, 2, none⟩ c) (w.heap.size + 1) 24 [a, b, c] ∧ Fr (OneB (w.heap.size + 1)) wr ((((wr.drewN d).setCell ⟨w.heap.size + 1, 0, none⟩ a).setCell ⟨w.heap.size + 1, 1, none⟩ b).setCell ⟨w.heap.size + 1, 2, none⟩ c) := by
  refine ⟨(((h.r.drewN d).set 0 a).set 1 b).set 2 c, ?_⟩
  have h0 : Below wr.heap.size wr (wr.drewN d) := ⟨rfl, rfl, rfl, Nat.le_refl _, fun _ _ => rfl⟩
  exact (((Fr.of_below (S := OneB (w.heap.size + 1)) h0).setCell (p := ⟨w.heap.size + 1, 0, none⟩) (.inl rfl) a).setCell (p := ⟨w.heap.size + 1, 1, none⟩) (.inl rfl) b).setCell (p := ⟨w.heap.size + 1, 2, none⟩) (.inl rfl) c
theorem ring_next {s r : Int} {N : Nat} (h0 : 0 ≤ s) (h1 : s < N) (h2 : 0 ≤ r) (h3 : r + 1 < N) : ∃ t : Int, (s + 1 + r).tmod (N : Int) = t ∧ 0 ≤ t ∧ t < N ∧ s ≠ t := by
  refine ⟨_, rfl, ?_, ?_, ?_⟩
  · rw [Int.tmod_eq_emod_of_nonneg (by omega)]; exact Int.emod_nonneg _ (by omega)
  · rw [Int.tmod_eq_emod_of_nonneg (by omega)]; exact Int.emod_lt_of_pos _ (by omega)
  · rw [Int.tmod_eq_emod_of_nonneg (by omega)]
    by_cases h : s + 1 + r < N
    · rw [Int.emod_eq_of_lt (by omega) h]; omega
    · have : (s + 1 + r) % (N : Int) = s + 1 + r - N := by
        rw [← Int.sub_emod_right, Int.emod_eq_of_lt (by omega) (by omega)]
      rw [this]; omega
theorem w64 {x : Int} (h0 : -1000 ≤ x) (h1 : x ≤ 1000) : IntKind.i64.wrap x = x := IntWalk.i64_in _ (by omega)

theorem SmI.zero (w : World) (N : Nat) (x : Sm) : SmI w (((w.alloc (.cells #[.int .u8 x.nd, .bool x.hd, .slice x.A x.K.length x.c, .int .u8 x.s, .int .u8 x.t, .int .u8 x.h] 45)).alloc (.cells #[.int .i64 0, .bool false, .slice none 0 0] 24)).alloc (.cells #[.int .i64 (N : Int), .bool x.hd, .slice none 0 0] 24)) N x (.slice none 0 0) [] :=
  ⟨(two_new (w := w)).alloc (by simp; omega) _, ((Blk.new w x.cells 45).alloc _).alloc _, (Blk.new' (by simp) [_, _, _] 24).alloc _, Blk.new' (by simp) [_, _, _] 24, ⟨rfl, .inl ⟨rfl, rfl⟩⟩, fun a ha => absurd ha (by simp), fun a ha => absurd ha (by simp)⟩
theorem heap_two (w : World) (o1 o2 : Obj) : ((w.alloc o1).alloc o2).drew.heap[w.heap.size + 1]? = some o2 := by
  show ((w.alloc o1).alloc o2).heap[w.heap.size + 1]? = some o2
  have := heap_alloc_new (w.alloc o1) o2
  simpa using this
theorem two_any {w : World} {o1 o2 : Obj} : Below w.heap.size w ((w.alloc o1).alloc o2) := two_new

def SmS (W : World) (b q N : Nat) (n : Nat) (K : List Arc) : Prop :=
  W.cell? ⟨b, 0, none⟩ = some (.int .i64 (N : Int)) ∧ W.cell? ⟨q, 0, none⟩ = some (.int .u8 (frs K n)) ∧ W.cell? ⟨q, 1, none⟩ = some (.int .u8 (tos K n)) ∧ W.cell? ⟨q, 2, none⟩ = some (.int .u8 (caps K n)) ∧ W.cell? ⟨q, 3, none⟩ = some (.int .u8 (tms K n))
theorem rAl {a w : World} (h : Below a.heap.size a w) (o : Obj) : Below a.heap.size a (w.alloc o) := h.alloc h.size o
theorem rDr {a w : World} (h : Below a.heap.size a w) : Below a.heap.size a w.drew := h.drew
theorem SmI.nown {w wr : World} {N : Nat} {x : Sm} {V : Value} {M : List Arc} (h : SmI w wr N x V M) : V.ownBlock ≠ some wr.heap.size := fun e => by
  have := (h.own.lt _ e).2
  omega
set_option maxRecDepth 10000 in
set_option maxHeartbeats 4000000 in
theorem read_calls {w : World} {x : Sm} (k : Nat) (hx : SmOk w x) (hk : k ≤ 200) :
    Calls Try.prog 37 #[x.val, .int .i64 (k : Int)] w (ReadPost w x k) := by
  obtain ⟨i0, hi0, hzz⟩ := Option.map_eq_some_iff.1 info49
  simp only [Prod.mk.injEq] at hzz
  obtain ⟨m, hm, m0, m1⟩ := byt_mod hx.nd (n := 4) (by omega)
  obtain ⟨N, hN⟩ : ∃ N : Nat, (N : Int) = 2 + m := ⟨(2 + m).toNat, by omega⟩
  have hn1 : x.nd.tmod 4 = m := hm
  have hw1 := w64 (x := x.nd) (by have := hx.nd.1; omega) (by have := hx.nd.2; omega)
  have hw2 := w64 (x := m) (by omega) (by omega)
  have hw3 := w64 (x := (2 + m)) (by omega) (by omega)
  have hw4 := w64 (x := (N : Int)) (by omega) (by omega)
  have HX := Lib.hid hx
  have HI0 := Lib.hid hi0
  have HZ0 := Lib.hid hzz
  obtain ⟨N1, N2⟩ : 2 ≤ N ∧ N ≤ 5 := by omega
  have HN := Lib.hid hN
  clear hx hi0 hzz hm
  unfold Sm.val Sm.cells
  go_enter Try.func37, Try.ntmps37
  go_wp2
  rw [← HN.out]
  clear hN hn1 hw1 hw2 hw3
  go_loopw [9] (fun i wr => ∃ (j : Nat) (V : Value) (M : List Arc), j ≤ x.K.length ∧ j ≤ k ∧ M.length = j ∧ i = .int .i64 j ∧ Hid (SmI w wr N x V M)) (fun i _ => k - (intOf i).toNat)
  case atStart =>
    refine ⟨0, .slice none 0 0, [], Nat.zero_le _, Nat.zero_le _, rfl, rfl, ?_⟩
    exact SmI.zero w N x
  case round =>
    obtain ⟨j, V, M, hj, hjk, hM, rfl, hI⟩ := hrel
    subst hM
    have b0 := hI.out.b.cell 0 rfl
    have b2 := hI.out.b.cell 2 rfl
    have bl := hI.out.b.lt
    have x0 := hI.out.bx.cell 0 rfl
    have x2 := hI.out.bx.cell 2 rfl
    have xl := hI.out.bx.lt
    by_cases hjl : M.length < x.K.length
    · by_cases hjn : M.length < k
      · obtain ⟨bA, oA, hA, a0, a1, a2, a3, y0, y1, y2, y3⟩ := (HX.out.below hI.out.below).rd M.length hjl
        obtain ⟨r0, hr0, z0, z0'⟩ := byt_mod y0 (n := N) (by omega)
        obtain ⟨r1, hr1, z1, z1'⟩ := byt_mod y1 (n := N) (by omega)
        obtain ⟨r2, hr2, z2, z2'⟩ := byt_mod y2 (n := 6) (by omega)
        obtain ⟨r3, hr3, z3, z3'⟩ := byt_mod y3 (n := 4) (by omega)
        have hn0 : ¬ N = 0 := by omega
        have hr2' : (caps x.K M.length).tmod 6 = r2 := hr2
        have hr3' : (tms x.K M.length).tmod 4 = r3 := hr3
        have v0 := w64 (x := frs x.K M.length) (by have := y0.1; omega) (by have := y0.2; omega)
        have v1 := w64 (x := tos x.K M.length) (by have := y1.1; omega) (by have := y1.2; omega)
        have v2 := w64 (x := caps x.K M.length) (by have := y2.1; omega) (by have := y2.2; omega)
        have v3 := w64 (x := tms x.K M.length) (by have := y3.1; omega) (by have := y3.2; omega)
        have u0 := w64 (x := r0) (by omega) (by omega)
        have u1 := w64 (x := r1) (by omega) (by omega)
        have u2 := w64 (x := r2) (by omega) (by omega)
        have u3 := w64 (x := r3) (by omega) (by omega)
        have al := World.block_lt_of_cell? _ _ a0
        have i1 : decide ((M.length : Int) < (x.K.length : Int)) = true := decide_eq_true (by omega)
        have i2 : decide ((M.length : Int) < (k : Int)) = true := decide_eq_true (by omega)
        clear hr2 hr3
        rw [hA] at x2
        clear hA
        go_wp2
        obtain ⟨A0, c0, e0, hnc, _⟩ := own_shape hI.out.own
        subst e0
        have hjM : M.length ≤ 200 := by omega
        have MK : Hid (∀ W, Below (wr.alloc (.cells #[.int .u8 (frs x.K M.length), .int .u8 (tos x.K M.length), .int .u8 (caps x.K M.length), .int .u8 (tms x.K M.length)] 104)).heap.size (wr.alloc (.cells #[.int .u8 (frs x.K M.length), .int .u8 (tos x.K M.length), .int .u8 (caps x.K M.length), .int .u8 (tms x.K M.length)] 104)) W → SmS W (w.heap.size + 1 + 1) wr.heap.size N M.length x.K) := fun W hb => by
          have h1 := (hI.out.step one_new).step hb
          have h2 := (Blk.new wr [.int .u8 (frs x.K M.length), .int .u8 (tos x.K M.length), .int .u8 (caps x.K M.length), .int .u8 (tms x.K M.length)] 104).below hb
          exact ⟨h1.b.cell 0 rfl, h2.cell 0 rfl, h2.cell 1 rfl, h2.cell 2 rfl, h2.cell 3 rfl⟩
        have GK : Hid (∀ w1, ((wr.alloc (.cells #[.int .u8 (frs x.K M.length), .int .u8 (tos x.K M.length), .int .u8 (caps x.K M.length), .int .u8 (tms x.K M.length)] 104)).alloc (.cells #[.int .i64 r0, .int .i64 r1, .int .i64 r2, .int .i64 r3] 49)).drew.grownBy w1 (Value.slice A0 M.length c0).ownBlock → SmS w1 (w.heap.size + 1 + 1) wr.heap.size N M.length x.K ∧ (∀ v, SmS (w1.setCell ⟨w.heap.size + 1 + 1, 2, none⟩ v) (w.heap.size + 1 + 1) wr.heap.size N M.length x.K) ∧ w1.cell? ⟨w.heap.size + 1 + 1, 2, none⟩ = some (.slice A0 M.length c0) ∧ w1.frozen? ⟨w.heap.size + 1 + 1, 2, none⟩ = false ∧ w.heap.size + 1 + 1 < w1.heap.size) :=
          fun w1 hg => by
            have h1 := (hI.out.step two_any.drew).grown hg
            have h2 : Blk w1 wr.heap.size 104 [.int .u8 (frs x.K M.length), .int .u8 (tos x.K M.length), .int .u8 (caps x.K M.length), .int .u8 (tms x.K M.length)] := (((Blk.new wr _ 104).alloc _).drew).grown hg fun e => hI.out.nown e.symm
            have h3 : ∀ v, Blk (w1.setCell ⟨w.heap.size + 1 + 1, 2, none⟩ v) (w.heap.size + 1 + 1) 24 _ := fun v => h1.set 2 v
            have hne := hI.out.b.lt
            have h4 : ∀ v, Blk (w1.setCell ⟨w.heap.size + 1 + 1, 2, none⟩ v) wr.heap.size 104 _ := fun v => h2.far (p := ⟨w.heap.size + 1 + 1, 2, none⟩) (show wr.heap.size ≠ w.heap.size + 1 + 1 by omega) v
            exact ⟨⟨h1.cell 0 rfl, h2.cell 0 rfl, h2.cell 1 rfl, h2.cell 2 rfl, h2.cell 3 rfl⟩, fun v => ⟨(h3 v).cell 0 rfl, (h4 v).cell 0 rfl, (h4 v).cell 1 rfl, (h4 v).cell 2 rfl, (h4 v).cell 3 rfl⟩, h1.cell 2 rfl, h1.free 2, h1.lt⟩
        have q1 : (wr.alloc (.cells #[.int .u8 (frs x.K M.length), .int .u8 (tos x.K M.length), .int .u8 (caps x.K M.length), .int .u8 (tms x.K M.length)] 104)).drew.cell? ⟨w.heap.size + 1 + 1, 2, none⟩ = some (.slice A0 M.length c0) := (hI.out.step one_new.drew).b.cell 2 rfl
        have q2 : ((wr.alloc (.cells #[.int .u8 (frs x.K M.length), .int .u8 (tos x.K M.length), .int .u8 (caps x.K M.length), .int .u8 (tms x.K M.length)] 104)).alloc (.cells #[.int .i64 r0, .int .i64 r1, .int .i64 r2, .int .i64 r3] 49)).drew.cell? ⟨w.heap.size + 1 + 1, 2, none⟩ = some (.slice A0 M.length c0) := (hI.out.step two_any.drew).b.cell 2 rfl
        have q3 : ((wr.alloc (.cells #[.int .u8 (frs x.K M.length), .int .u8 (tos x.K M.length), .int .u8 (caps x.K M.length), .int .u8 (tms x.K M.length)] 104)).drew.alloc (.cells #[.int .i64 r0, .int .i64 r1, .int .i64 r2, .int .i64 r3] 49)).cell? ⟨w.heap.size + 1 + 1, 2, none⟩ = some (.slice A0 M.length c0) := (hI.out.step two_any.drew).b.cell 2 rfl
        have HOW := Lib.hid hI.out.own
        have hjl2 := hI.out.below.size
        clear y0 y1 y2 y3 x0 x2 xl i1 i2 a0 a1 a2 a3 al hj hjk m0 m1 hw4 b0 b2
        refine wp_region_noPanic ?_
        refine wp_region_held_drew (S := fun W => W.cell? ⟨w.heap.size + 1 + 1, 0, none⟩ = some (.int .i64 (N : Int)) ∧ W.cell? ⟨wr.heap.size, 0, none⟩ = some (.int .u8 (frs x.K M.length)) ∧ W.cell? ⟨wr.heap.size, 1, none⟩ = some (.int .u8 (tos x.K M.length)) ∧ W.cell? ⟨wr.heap.size, 2, none⟩ = some (.int .u8 (caps x.K M.length)) ∧ W.cell? ⟨wr.heap.size, 3, none⟩ = some (.int .u8 (tms x.K M.length))) (by kernel_rfl) ?_ (fun hHeld => ?_)
        · exact MK.out _ (Below.refl _ _).drew
        refine wpAnyH_take (i := 0) (v := ?_) rfl (by kernel_rfl) (by kernel_rfl) (by kernel_rfl) (fun _ _ _ h => h) (Or.inl ⟨by rfl, ?hy⟩) (by assumption) ?_
        case hy => intro w hSw; (try dsimp only at hSw); go_simp; try with_reducible rfl
        try simp only [Act.put, List.setIfInBounds_toArray, List.set_cons_zero, List.set_cons_succ]
        refine wpAnyH_take (i := 2) (v := ?_) rfl (by kernel_rfl) (by kernel_rfl) (by kernel_rfl) (fun _ _ _ h => h) (Or.inl ⟨by rfl, ?hy⟩) (by assumption) ?_
        case hy => intro w hSw; (try dsimp only at hSw); go_simp; try with_reducible rfl
        try simp only [Act.put, List.setIfInBounds_toArray, List.set_cons_zero, List.set_cons_succ]
        refine wpAnyH_take (i := 3) (v := ?_) rfl (by kernel_rfl) (by kernel_rfl) (by kernel_rfl) (fun _ _ _ h => h) (Or.inl ⟨by rfl, ?hy⟩) (by assumption) ?_
        case hy => intro w hSw; (try dsimp only at hSw); go_simp; try with_reducible rfl
        try simp only [Act.put, List.setIfInBounds_toArray, List.set_cons_zero, List.set_cons_succ]
        refine wpAnyH_take (i := 4) (v := ?_) rfl (by kernel_rfl) (by kernel_rfl) (by kernel_rfl) (fun _ _ _ h => h) (Or.inl ⟨by rfl, ?hy⟩) (by assumption) ?_
        case hy => intro w hSw; (try dsimp only at hSw); go_simp; try with_reducible rfl
        try simp only [Act.put, List.setIfInBounds_toArray, List.set_cons_zero, List.set_cons_succ]
        refine wpAnyH_take (i := 5) (v := ?_) rfl (by kernel_rfl) (by kernel_rfl) (by kernel_rfl) (fun _ _ _ h => h) (Or.inl ⟨by rfl, ?hy⟩) (by assumption) ?_
        case hy => intro w hSw; (try dsimp only at hSw); go_simp; try with_reducible rfl
        try simp only [Act.put, List.setIfInBounds_toArray, List.set_cons_zero, List.set_cons_succ]
        refine wpAnyH_take (i := 6) (v := ?_) rfl (by kernel_rfl) (by kernel_rfl) (by kernel_rfl) (fun _ _ _ h => h) (Or.inl ⟨by rfl, ?hy⟩) (by assumption) ?_
        case hy => intro w hSw; (try dsimp only at hSw); go_simp; try with_reducible rfl
        try simp only [Act.put, List.setIfInBounds_toArray, List.set_cons_zero, List.set_cons_succ]
        refine wpAnyH_take (i := 7) (v := ?_) rfl (by kernel_rfl) (by kernel_rfl) (by kernel_rfl) (fun _ _ _ h => h) (Or.inl ⟨by rfl, ?hy⟩) (by assumption) ?_
        case hy => intro w hSw; (try dsimp only at hSw); go_simp; try with_reducible rfl
        try simp only [Act.put, List.setIfInBounds_toArray, List.set_cons_zero, List.set_cons_succ]
        refine wpAnyH_take (i := 8) (v := ?_) rfl (by kernel_rfl) (by kernel_rfl) (by kernel_rfl) (fun _ _ _ h => h) (Or.inl ⟨by rfl, ?hy⟩) (by assumption) ?_
        case hy => intro w hSw; (try dsimp only at hSw); go_simp; try with_reducible rfl
        try simp only [Act.put, List.setIfInBounds_toArray, List.set_cons_zero, List.set_cons_succ]
        refine wpAnyH_take (i := 9) (v := ?_) rfl (by kernel_rfl) (by kernel_rfl) (by kernel_rfl) (fun _ _ _ h => h) (Or.inl ⟨by rfl, ?hy⟩) (by assumption) ?_
        case hy => intro w hSw; (try dsimp only at hSw); go_simp; try with_reducible rfl
        try simp only [Act.put, List.setIfInBounds_toArray, List.set_cons_zero, List.set_cons_succ]
        refine wpAnyH_take (i := 10) (v := ?_) rfl (by kernel_rfl) (by kernel_rfl) (by kernel_rfl) (fun _ _ _ h => h) (Or.inl ⟨by rfl, ?hy⟩) (by assumption) ?_
        case hy => intro w hSw; (try dsimp only at hSw); go_simp; try with_reducible rfl
        try simp only [Act.put, List.setIfInBounds_toArray, List.set_cons_zero, List.set_cons_succ]
        refine wpAnyH_take (i := 11) (v := ?_) rfl (by kernel_rfl) (by kernel_rfl) (by kernel_rfl) (fun _ _ _ h => h) (Or.inl ⟨by rfl, ?hy⟩) (by assumption) ?_
        case hy => intro w hSw; (try dsimp only at hSw); go_simp; try with_reducible rfl
        try simp only [Act.put, List.setIfInBounds_toArray, List.set_cons_zero, List.set_cons_succ]
        refine wpAnyH_take (i := 12) (v := ?_) rfl (by kernel_rfl) (by kernel_rfl) (by kernel_rfl) (fun _ _ _ h => h) (Or.inl ⟨by rfl, ?hy⟩) (by assumption) ?_
        case hy => intro w hSw; (try dsimp only at hSw); go_simp; try with_reducible rfl
        try simp only [Act.put, List.setIfInBounds_toArray, List.set_cons_zero, List.set_cons_succ]
        refine wpAnyH_take (i := 13) (v := ?_) rfl (by kernel_rfl) (by kernel_rfl) (by kernel_rfl) (fun _ _ _ h => h) (Or.inl ⟨by rfl, ?hy⟩) (by assumption) ?_
        case hy => intro w hSw; (try dsimp only at hSw); go_simp; try with_reducible rfl
        try simp only [Act.put, List.setIfInBounds_toArray, List.set_cons_zero, List.set_cons_succ]
        refine wpAnyH_take (i := 14) (v := ?_) rfl (by kernel_rfl) (by kernel_rfl) (by kernel_rfl) (fun _ _ _ h => h) (Or.inl ⟨by rfl, ?hy⟩) (by assumption) ?_
        case hy => intro w hSw; (try dsimp only at hSw); go_simp; try with_reducible rfl
        try simp only [Act.put, List.setIfInBounds_toArray, List.set_cons_zero, List.set_cons_succ]
        refine wpAnyH_take (i := 15) (v := ?_) rfl (by kernel_rfl) (by kernel_rfl) (by kernel_rfl) (fun _ _ _ h => h) (Or.inl ⟨by rfl, ?hy⟩) (by assumption) ?_
        case hy => intro w hSw; (try dsimp only at hSw); go_simp; try with_reducible rfl
        try simp only [Act.put, List.setIfInBounds_toArray, List.set_cons_zero, List.set_cons_succ]
        refine wpAnyH_take (i := 16) (v := ?_) rfl (by kernel_rfl) (by kernel_rfl) (by kernel_rfl) (fun _ _ _ h => h) (Or.inl ⟨by rfl, ?hy⟩) (by assumption) ?_
        case hy => intro w hSw; (try dsimp only at hSw); go_simp; try with_reducible rfl
        try simp only [Act.put, List.setIfInBounds_toArray, List.set_cons_zero, List.set_cons_succ]
        refine wpAnyH_take (i := 17) (v := ?_) rfl (by kernel_rfl) (by kernel_rfl) (by kernel_rfl) (fun _ _ _ h => h) (Or.inl ⟨by rfl, ?hy⟩) (by assumption) ?_
        case hy => intro w hSw; (try dsimp only at hSw); go_simp; try with_reducible rfl
        try simp only [Act.put, List.setIfInBounds_toArray, List.set_cons_zero, List.set_cons_succ]
        refine wpAnyH_take (i := 18) (v := ?_) rfl (by kernel_rfl) (by kernel_rfl) (by kernel_rfl) (fun _ _ _ h => h) (Or.inl ⟨by rfl, ?hy⟩) (by assumption) ?_
        case hy => intro w hSw; (try dsimp only at hSw); go_simp; try with_reducible rfl
        try simp only [Act.put, List.setIfInBounds_toArray, List.set_cons_zero, List.set_cons_succ]
        refine wpAnyH_take (i := 19) (v := ?_) rfl (by kernel_rfl) (by kernel_rfl) (by kernel_rfl) (fun _ _ _ h => h) (Or.inl ⟨by rfl, ?hy⟩) (by assumption) ?_
        case hy => intro w hSw; (try dsimp only at hSw); go_simp; try with_reducible rfl
        try simp only [Act.put, List.setIfInBounds_toArray, List.set_cons_zero, List.set_cons_succ]
        refine wpAnyH_take (i := 20) (v := ?_) rfl (by kernel_rfl) (by kernel_rfl) (by kernel_rfl) (fun _ _ _ h => h) (Or.inl ⟨by rfl, ?hy⟩) (by assumption) ?_
        case hy => intro w hSw; (try dsimp only at hSw); go_simp; try with_reducible rfl
        try simp only [Act.put, List.setIfInBounds_toArray, List.set_cons_zero, List.set_cons_succ]
        refine wpAnyH_take (i := 21) (v := ?_) rfl (by kernel_rfl) (by kernel_rfl) (by kernel_rfl) (fun _ _ _ h => h) (Or.inl ⟨by rfl, ?hy⟩) (by assumption) ?_
        case hy => intro w hSw; (try dsimp only at hSw); go_simp; try with_reducible rfl
        try simp only [Act.put, List.setIfInBounds_toArray, List.set_cons_zero, List.set_cons_succ]
        refine wpAnyH_take (i := 22) (v := ?_) rfl (by kernel_rfl) (by kernel_rfl) (by kernel_rfl) (fun _ _ _ h => h) (Or.inl ⟨by rfl, ?hy⟩) (by assumption) ?_
        case hy => intro w hSw; (try dsimp only at hSw); go_simp; try with_reducible rfl
        try simp only [Act.put, List.setIfInBounds_toArray, List.set_cons_zero, List.set_cons_succ]
        refine wpAnyH_ready (rs := [1, 23]) (by kernel_rfl) (by simp) ?_
        refine AllReadyH.cons rfl (fun K hK => ?_) ?_
        · go_simp
          refine hK.out _ _ ?_ (fun hHeld => ?_)
          · first | assumption | (refine MK.out _ ?_; repeat (first | with_reducible exact Below.refl _ _ | with_reducible refine rDr ?_ | with_reducible refine rAl ?_ _))
          clear hK K
          try simp only [Act.put, List.setIfInBounds_toArray, List.set_cons_zero, List.set_cons_succ]
          refine wpAnyH_ready (rs := [23]) (by kernel_rfl) (by simp) ?_
          refine AllReadyH.cons rfl (fun K hK => ?_) ?_
          · go_simp
            refine hK.out _ _ ?_ (fun hHeld => ?_)
            · first | assumption | (refine MK.out _ ?_; repeat (first | with_reducible exact Below.refl _ _ | with_reducible refine rDr ?_ | with_reducible refine rAl ?_ _))
            clear hK K
            try simp only [Act.put, List.setIfInBounds_toArray, List.set_cons_zero, List.set_cons_succ]
            refine wpAnyH_ready (rs := [24]) (by kernel_rfl) (by simp) ?_
            refine AllReadyH.cons rfl (fun K hK => ?_) ?_
            · refine step_append_lies _ (by rfl) (.tmp 39) (.tmp 61) 22 (by rfl) (w.heap.size + 3) 49 i0 _ 4 32 Try.underlying22 HI0.out HZ0.out.1 HZ0.out.2.1 HZ0.out.2.2 rfl (by omega) _ M.length _ (by rfl) ((HOW.out.alloc _).alloc _) ⟨wr.heap.size + 1, 0, none⟩ 1 1 [.int .i64 r0, .int .i64 r1, .int .i64 r2, .int .i64 r3] (by first | rfl | simp) (by rfl) (World.news_of_block (cs := #[.int .i64 r0, .int .i64 r1, .int .i64 r2, .int .i64 r3]) (t := 49) (fr := (0, 0)) (heap_two _ _ _)) (by simp [Value.oneCell']) (by omega) (by unfold maxLen; omega) (by omega) (by simp; omega) (wr.heap.size + 2) (by simp) ?_; intro gg cap w1 hown1 hgrow hat hlt1; obtain ⟨_, _, y1, y2, y3⟩ := GK.out _ hgrow
              refine hK.out _ _ ?_ (fun hHeld => ?_)
              · exact (GK.out _ hgrow).1
              clear hK K
              try simp only [Act.put, List.setIfInBounds_toArray, List.set_cons_zero, List.set_cons_succ]
              refine wpAnyH_take (i := 25) (v := ?_) rfl (by kernel_rfl) (by kernel_rfl) (by kernel_rfl) (fun _ _ _ h => h) (Or.inl ⟨by rfl, ?hy⟩) (by assumption) ?_
              case hy => intro w hSw; (try dsimp only at hSw); go_simp; try with_reducible rfl
              try simp only [Act.put, List.setIfInBounds_toArray, List.set_cons_zero, List.set_cons_succ]
              refine wpAnyH_ready (rs := [26]) (by kernel_rfl) (by simp) ?_
              refine AllReadyH.cons rfl (fun K hK => ?_) ?_
              · go_simp
                refine hK.out _ _ ?_ (fun hHeld => ?_)
                · exact (GK.out _ hgrow).2.1 _
                clear hK K
                try simp only [Act.put, List.setIfInBounds_toArray, List.set_cons_zero, List.set_cons_succ]
                refine wpAnyH_done (by kernel_rfl) ?_ _
                refine NoPanic.normal ?_
                go_wp2
                go_roundw
                case rel => first | exact ⟨M.length + 1, _, M ++ [⟨r0, r1, r2, r3⟩], by omega, by omega, by simp, by go_num, (SmI.more' (hI.out.step two_any.drew) rfl hown1 hgrow ⟨⟨⟨z0, z0'⟩, ⟨z1, z1'⟩⟩, ⟨z2, z2'⟩, ⟨z3, z3'⟩⟩)⟩ | ((repeat apply Exists.intro); exact ⟨⟨M.length + 1, _, M ++ [⟨r0, r1, r2, r3⟩], by omega, by omega, by simp, by go_num, (SmI.more' (hI.out.step two_any.drew) rfl hown1 hgrow ⟨⟨⟨z0, z0'⟩, ⟨z1, z1'⟩⟩, ⟨z2, z2'⟩, ⟨z3, z3'⟩⟩)⟩, rfl⟩)
                case measure => simp [intOf]; omega
              exact AllReadyH.nil
            exact AllReadyH.nil
          exact AllReadyH.nil
        refine AllReadyH.cons rfl (fun K hK => ?_) ?_
        · go_simp
          refine hK.out _ _ ?_ (fun hHeld => ?_)
          · first | assumption | (refine MK.out _ ?_; repeat (first | with_reducible exact Below.refl _ _ | with_reducible refine rDr ?_ | with_reducible refine rAl ?_ _))
          clear hK K
          try simp only [Act.put, List.setIfInBounds_toArray, List.set_cons_zero, List.set_cons_succ]
          refine wpAnyH_ready (rs := [1]) (by kernel_rfl) (by simp) ?_
          refine AllReadyH.cons rfl (fun K hK => ?_) ?_
          · go_simp
            refine hK.out _ _ ?_ (fun hHeld => ?_)
            · first | assumption | (refine MK.out _ ?_; repeat (first | with_reducible exact Below.refl _ _ | with_reducible refine rDr ?_ | with_reducible refine rAl ?_ _))
            clear hK K
            try simp only [Act.put, List.setIfInBounds_toArray, List.set_cons_zero, List.set_cons_succ]
            refine wpAnyH_ready (rs := [24]) (by kernel_rfl) (by simp) ?_
            refine AllReadyH.cons rfl (fun K hK => ?_) ?_
            · refine step_append_lies _ (by rfl) (.tmp 39) (.tmp 61) 22 (by rfl) (w.heap.size + 3) 49 i0 _ 4 32 Try.underlying22 HI0.out HZ0.out.1 HZ0.out.2.1 HZ0.out.2.2 rfl (by omega) _ M.length _ (by rfl) ((HOW.out.alloc _).alloc _) ⟨wr.heap.size + 1, 0, none⟩ 1 1 [.int .i64 r0, .int .i64 r1, .int .i64 r2, .int .i64 r3] (by first | rfl | simp) (by rfl) (World.news_of_block (cs := #[.int .i64 r0, .int .i64 r1, .int .i64 r2, .int .i64 r3]) (t := 49) (fr := (0, 0)) (heap_two _ _ _)) (by simp [Value.oneCell']) (by omega) (by unfold maxLen; omega) (by omega) (by simp; omega) (wr.heap.size + 2) (by simp) ?_; intro gg cap w1 hown1 hgrow hat hlt1; obtain ⟨_, _, y1, y2, y3⟩ := GK.out _ hgrow
              refine hK.out _ _ ?_ (fun hHeld => ?_)
              · exact (GK.out _ hgrow).1
              clear hK K
              try simp only [Act.put, List.setIfInBounds_toArray, List.set_cons_zero, List.set_cons_succ]
              refine wpAnyH_take (i := 25) (v := ?_) rfl (by kernel_rfl) (by kernel_rfl) (by kernel_rfl) (fun _ _ _ h => h) (Or.inl ⟨by rfl, ?hy⟩) (by assumption) ?_
              case hy => intro w hSw; (try dsimp only at hSw); go_simp; try with_reducible rfl
              try simp only [Act.put, List.setIfInBounds_toArray, List.set_cons_zero, List.set_cons_succ]
              refine wpAnyH_ready (rs := [26]) (by kernel_rfl) (by simp) ?_
              refine AllReadyH.cons rfl (fun K hK => ?_) ?_
              · go_simp
                refine hK.out _ _ ?_ (fun hHeld => ?_)
                · exact (GK.out _ hgrow).2.1 _
                clear hK K
                try simp only [Act.put, List.setIfInBounds_toArray, List.set_cons_zero, List.set_cons_succ]
                refine wpAnyH_done (by kernel_rfl) ?_ _
                refine NoPanic.normal ?_
                go_wp2
                go_roundw
                case rel => first | exact ⟨M.length + 1, _, M ++ [⟨r0, r1, r2, r3⟩], by omega, by omega, by simp, by go_num, (SmI.more' (hI.out.step two_any.drew) rfl hown1 hgrow ⟨⟨⟨z0, z0'⟩, ⟨z1, z1'⟩⟩, ⟨z2, z2'⟩, ⟨z3, z3'⟩⟩)⟩ | ((repeat apply Exists.intro); exact ⟨⟨M.length + 1, _, M ++ [⟨r0, r1, r2, r3⟩], by omega, by omega, by simp, by go_num, (SmI.more' (hI.out.step two_any.drew) rfl hown1 hgrow ⟨⟨⟨z0, z0'⟩, ⟨z1, z1'⟩⟩, ⟨z2, z2'⟩, ⟨z3, z3'⟩⟩)⟩, rfl⟩)
                case measure => simp [intOf]; omega
              exact AllReadyH.nil
            exact AllReadyH.nil
          exact AllReadyH.nil
        exact AllReadyH.nil
      · have i1 : decide ((M.length : Int) < (x.K.length : Int)) = true := decide_eq_true (by omega)
        have i2 : decide ((M.length : Int) < (k : Int)) = false := decide_eq_false (by omega)
        obtain ⟨A0, c0, rfl, hc0, hRA⟩ := RdA.own hI.out.own
        have hxx := HX.out
        obtain ⟨r4, hr4, z4, z4'⟩ := byt_mod hxx.s (n := N) (by omega)
        obtain ⟨P, hP⟩ : ∃ P : Nat, N = P + 1 := ⟨N - 1, by omega⟩
        have eP : (N : Int) - 1 = (P : Int) := by omega
        obtain ⟨r5, hr5, z5, z5'⟩ := byt_mod hxx.t (n := P) (by omega)
        obtain ⟨r7, hr7, z7, z7'⟩ := byt_mod hxx.h (n := 8) (by omega)
        have hr7' : x.h.tmod 8 = r7 := hr7
        obtain ⟨r6, hr6, z6, z6', z8⟩ := ring_next z4 z4' z5 (by omega : r5 + 1 < (N : Int))
        have v0 := w64 (x := x.s) (by have := hxx.s.1; omega) (by have := hxx.s.2; omega)
        have v1 := w64 (x := x.t) (by have := hxx.t.1; omega) (by have := hxx.t.2; omega)
        have v2 := w64 (x := x.h) (by have := hxx.h.1; omega) (by have := hxx.h.2; omega)
        have u0 := w64 (x := r4) (by omega) (by omega)
        have u1 := w64 (x := r5) (by omega) (by omega)
        have u2 := w64 (x := r6) (by omega) (by omega)
        have u3 := w64 (x := r7) (by omega) (by omega)
        have u4 := w64 (x := r4 + 1) (by omega) (by omega)
        have u5 := w64 (x := r4 + 1 + r5) (by omega) (by omega)
        have u6 := w64 (x := (P : Int)) (by omega) (by omega)
        have n0 : ¬ N = 0 := by omega
        have n1 : ¬ P = 0 := by omega
        have x3 := hI.out.bx.cell 3 rfl
        have x4 := hI.out.bx.cell 4 rfl
        have x5 := hI.out.bx.cell 5 rfl
        have b1 := hI.out.b.cell 1 rfl
        have q0 := hI.out.r.cell 0 rfl
        have q1 := hI.out.r.cell 1 rfl
        have q2 := hI.out.r.cell 2 rfl
        have f0 := hI.out.r.free 0
        have f1 := hI.out.r.free 1
        have f2 := hI.out.r.free 2
        have ql := hI.out.r.lt
        have HRA := Lib.hid hRA
        have HC0 := Lib.hid hc0
        have HPP := Lib.hid hP
        have Z8 := Lib.hid z8
        clear hr7 hxx hRA hc0 hP z8
        go_wp2
        go_quiet (fail)
        go_wp2
        go_region
        all_goals
          go_wp2
          obtain ⟨H5, F5⟩ := hI.out.ret (nq + 1) (.int .i64 (N : Int)) (.bool x.hd) (.slice A0 M.length c0)
          have c0' := H5.cell 0 rfl
          have c1' := H5.cell 1 rfl
          have c2' := H5.cell 2 rfl
          refine bodyPost_ret (v := .tuple #[.agg #[.int .i64 (N : Int), .bool x.hd, .slice A0 M.length c0], .int .i64 r4, .int .i64 r6, .int .i64 r7]) ?_ rfl ?_
          · simp only [results, Try.results37]
            simp [go_sem, c0', c1', c2']
          · exact ⟨N, M, A0, c0, r4, r6, r7, rfl, (HRA.out.fr F5 (fun b hb hs => by have : b = w.heap.size + 1 := hs; omega)).mono fun b _ hb => by omega, HC0.out, hjk, ⟨by omega, by omega, by omega, hI.out.ok⟩, by omega, ⟨z4, z4'⟩, ⟨z6, z6'⟩, Z8.out, z7, by omega, hI.out.small, hI.out.below.trans (F5.below hI.out.below.size fun b hb hs => by have : b = w.heap.size + 1 := hs; omega)⟩
    · have i1 : decide ((M.length : Int) < (x.K.length : Int)) = false := decide_eq_false (by omega)
      obtain ⟨A0, c0, rfl, hc0, hRA⟩ := RdA.own hI.out.own
      have hxx := HX.out
      obtain ⟨r4, hr4, z4, z4'⟩ := byt_mod hxx.s (n := N) (by omega)
      obtain ⟨P, hP⟩ : ∃ P : Nat, N = P + 1 := ⟨N - 1, by omega⟩
      have eP : (N : Int) - 1 = (P : Int) := by omega
      obtain ⟨r5, hr5, z5, z5'⟩ := byt_mod hxx.t (n := P) (by omega)
      obtain ⟨r7, hr7, z7, z7'⟩ := byt_mod hxx.h (n := 8) (by omega)
      have hr7' : x.h.tmod 8 = r7 := hr7
      obtain ⟨r6, hr6, z6, z6', z8⟩ := ring_next z4 z4' z5 (by omega : r5 + 1 < (N : Int))
      have v0 := w64 (x := x.s) (by have := hxx.s.1; omega) (by have := hxx.s.2; omega)
      have v1 := w64 (x := x.t) (by have := hxx.t.1; omega) (by have := hxx.t.2; omega)
      have v2 := w64 (x := x.h) (by have := hxx.h.1; omega) (by have := hxx.h.2; omega)
      have u0 := w64 (x := r4) (by omega) (by omega)
      have u1 := w64 (x := r5) (by omega) (by omega)
      have u2 := w64 (x := r6) (by omega) (by omega)
      have u3 := w64 (x := r7) (by omega) (by omega)
      have u4 := w64 (x := r4 + 1) (by omega) (by omega)
      have u5 := w64 (x := r4 + 1 + r5) (by omega) (by omega)
      have u6 := w64 (x := (P : Int)) (by omega) (by omega)
      have n0 : ¬ N = 0 := by omega
      have n1 : ¬ P = 0 := by omega
      have x3 := hI.out.bx.cell 3 rfl
      have x4 := hI.out.bx.cell 4 rfl
      have x5 := hI.out.bx.cell 5 rfl
      have b1 := hI.out.b.cell 1 rfl
      have q0 := hI.out.r.cell 0 rfl
      have q1 := hI.out.r.cell 1 rfl
      have q2 := hI.out.r.cell 2 rfl
      have f0 := hI.out.r.free 0
      have f1 := hI.out.r.free 1
      have f2 := hI.out.r.free 2
      have ql := hI.out.r.lt
      have HRA := Lib.hid hRA
      have HC0 := Lib.hid hc0
      have HPP := Lib.hid hP
      have Z8 := Lib.hid z8
      clear hr7 hxx hRA hc0 hP z8
      go_wp2
      go_quiet (fail)
      go_wp2
      go_region
      all_goals
        go_wp2
        obtain ⟨H5, F5⟩ := hI.out.ret (nq + 1) (.int .i64 (N : Int)) (.bool x.hd) (.slice A0 M.length c0)
        have c0' := H5.cell 0 rfl
        have c1' := H5.cell 1 rfl
        have c2' := H5.cell 2 rfl
        refine bodyPost_ret (v := .tuple #[.agg #[.int .i64 (N : Int), .bool x.hd, .slice A0 M.length c0], .int .i64 r4, .int .i64 r6, .int .i64 r7]) ?_ rfl ?_
        · simp only [results, Try.results37]
          simp [go_sem, c0', c1', c2']
        · exact ⟨N, M, A0, c0, r4, r6, r7, rfl, (HRA.out.fr F5 (fun b hb hs => by have : b = w.heap.size + 1 := hs; omega)).mono fun b _ hb => by omega, HC0.out, hjk, ⟨by omega, by omega, by omega, hI.out.ok⟩, by omega, ⟨z4, z4'⟩, ⟨z6, z6'⟩, Z8.out, z7, by omega, hI.out.small, hI.out.below.trans (F5.below hI.out.below.size fun b hb hs => by have : b = w.heap.size + 1 := hs; omega)⟩
end Go.Proofs.Ythbffhlfdjpfaaa
