/- The statements' arguments, opened: a network, a flow, a side; what a law that writes nothing leaves of them. -/
import Derived.Test.YthbffhlfdjpfaaaRows
import Derived.Test.YthbffhlfdjpfaaaBase
import Derived.ProofKit
import Derived.OpenShut
import Derived.ChangeOld
import Derived.Below
import Derived.Carry
import Derived.SizedLaws
import Derived.Deep.Slices
import Derived.Deep.Fields
import Derived.ChangeSame
import Derived.Lib.SmallJoins
import Derived.Deep.OwnShut
namespace Go.Proofs.Ythbffhlfdjpfaaa
set_option linter.unusedVariables false
set_option linter.unusedSimpArgs false
open Go.ChangeShapes Go.WideShapes Go.ChangeAt Go.RowKit Go.Deep Go.Joins

theorem tryOwn : ownKnob Try.prog.godebug = none := by kernel_rfl
theorem tryLaid : laidOutB Try.prog = true := by kernel_rfl

section
variable {H : Type} {enc : TypeId × Value → H} {P : Program} {w : World} {base : Nat} {spare : Nat → Bool} {held : Bool}
theorem open_slice_fields {t e : TypeId} {fs : Array Field} {fuel : Nat} {cs : List Value} {x : DataW H × List MemPlace} (ht : P.underlying t = some (.slice e)) (he : P.underlying e = some (.struct fs))
    (hone : oneCellFields P fs = true) (hC : P.cellsOf e = fs.size) (h : DataW.trod enc P w base spare held fuel t cs = some x) :
    (cs = [.slice none 0 0] ∧ x = (.nil, [])) ∨
    ∃ (a : Addr) (len cap m : Nat) (D : Nat → DataW H) (Pl : Nat → List MemPlace), cs = [.slice (some a) len cap] ∧ base ≤ a.block ∧ len ≤ cap ∧ cap ≤ maxLen ∧ m = (if spare a.block then cap else len) ∧
      x = (.slice ((List.range len).map D) ((List.range (m - len)).map fun j => D (len + j)), MemPlace.row a (m * fs.size) ++ (List.range m).flatMap Pl) ∧
      ∀ i, i < m → ∃ (ys : List (DataW H × List MemPlace)) (n : Nat), D i = .agg (ys.map (·.1)) ∧ Pl i = ys.flatMap (·.2) ∧ ys.length = fs.size ∧
        ∀ (j : Nat) (f : Field), fs[j]? = some f → ∃ (v : Value) (y : DataW H × List MemPlace), w.cell? (a.add (i * fs.size + j)) = some v ∧ ys[j]? = some y ∧ DataW.trod enc P w base spare held n f.type [v] = some y := by
  rcases open_slice ht h with h0 | ⟨a, len, cap, m, n, D, Pl, hcs, hb, hl, hm, hmm, hx, hi⟩
  · exact .inl h0
  · refine .inr ⟨a, len, cap, m, D, Pl, hcs, hb, hl, hm, hmm, by rw [hC] at hx; exact hx, fun i him => ?_⟩
    obtain ⟨cs', hc, ht'⟩ := hi i him
    rw [hC] at hc
    obtain ⟨ys, n', hn', hy, hlen, hyl, hf⟩ := DataW.trod_struct he ht'
    obtain ⟨_, hcl, hat⟩ := World.cells?_some hc
    simp only [Prod.mk.injEq] at hy
    refine ⟨ys, n', hy.1, hy.2, hyl, fun j f hj => ?_⟩
    obtain ⟨ho, hk⟩ := hone_of hone j f hj
    have hjl : j < fs.size := (Array.getElem?_eq_some_iff.1 hj).1
    have hcell := hat j hjl
    have hv : cs'[j]? = some (cs'[j]'(by omega)) := List.getElem?_eq_getElem (by omega)
    have h1 := hf j f hj
    rw [ho, hk] at h1
    have hone' : (cs'.drop j).take 1 = [cs'[j]'(by omega)] := by
      rw [List.drop_eq_getElem_cons (by omega)]
      rfl
    rw [hone'] at h1
    have hys : ys[j]? = some (ys[j]'(by omega)) := List.getElem?_eq_getElem (by omega)
    refine ⟨_, _, ?_, hys, h1.trans hys⟩
    rw [← Go.Deep.add_add, hcell, hv]
end

section
variable {H : Type} {enc : TypeId × Value → H} {w : World}

theorem add_none (b off k : Nat) : (⟨b, off, none⟩ : Addr).add k = ⟨b, off + k, none⟩ := by unfold Addr.add; split <;> simp_all
/-- a slice of arcs that is read -/
theorem open_arcs {fuel : Nat} {cs : List Value} {x : DataW H × List MemPlace} (h : DataW.trod enc Try.prog w 0 (fun _ => true) true fuel 22 cs = some x) :
    ∃ (A : Option Addr) (L : List Arc) (c : Nat), cs = [.slice A L.length c] ∧ RdA w (fun _ => True) A L ∧ L.length ≤ c ∧ (x.1 = .nil ∧ c = 0 ∨ ∃ es sp, x.1 = .slice es sp ∧ es.length + sp.length = c) := by
  rcases open_slice_fields Try.underlying22 Try.underlying49 (by kernel_rfl) (by kernel_rfl) h with ⟨rfl, rfl⟩ | ⟨a, len, cap, m, D, Pl, rfl, _, hl, hm, hmm, rfl, hi⟩
  · exact ⟨none, [], 0, rfl, fun i hi => absurd hi (by simp), Nat.le_refl _, .inl ⟨rfl, rfl⟩⟩
  · simp only [if_true] at hmm
    subst hmm
    have hex : ∀ i : Nat, ∃ g : Arc, i < m → w.cell? (a.add (i * 4)) = some (.int .i64 g.fr) ∧ w.cell? (a.add (i * 4 + 1)) = some (.int .i64 g.to) ∧ w.cell? (a.add (i * 4 + 2)) = some (.int .i64 g.cap) ∧ w.cell? (a.add (i * 4 + 3)) = some (.int .i64 g.tm) := by
      intro i
      by_cases him : i < m
      · obtain ⟨ys, n, _, _, _, hf⟩ := hi i him
        obtain ⟨v0, y0, c0, _, t0⟩ := hf 0 _ rfl
        obtain ⟨v1, y1, c1, _, t1⟩ := hf 1 _ rfl
        obtain ⟨v2, y2, c2, _, t2⟩ := hf 2 _ rfl
        obtain ⟨v3, y3, c3, _, t3⟩ := hf 3 _ rfl
        obtain ⟨n0, e0, _, _⟩ := DataW.trod_int Try.underlying3 t0
        obtain ⟨n1, e1, _, _⟩ := DataW.trod_int Try.underlying3 t1
        obtain ⟨n2, e2, _, _⟩ := DataW.trod_int Try.underlying3 t2
        obtain ⟨n3, e3, _, _⟩ := DataW.trod_int Try.underlying3 t3
        simp only [List.cons.injEq, and_true] at e0 e1 e2 e3
        subst e0 e1 e2 e3
        exact ⟨⟨n0, n1, n2, n3⟩, fun _ => ⟨c0, c1, c2, c3⟩⟩
      · exact ⟨default, fun h => absurd h him⟩
    obtain ⟨g, hg⟩ := Classical.axiomOfChoice hex
    refine ⟨some a, (List.range len).map g, m, by simp, fun i hi => ?_, by simpa using hl, .inr ⟨_, _, rfl, by simp; omega⟩⟩
    have hi' : i < len := by simpa using hi
    obtain ⟨c0, c1, c2, c3⟩ := hg i (by omega)
    obtain ⟨b, off, spot⟩ := a
    have hspot : spot = none := by simpa [Addr.add] using World.cell?_spot (hg 0 (by omega)).1
    subst hspot
    have e : ((List.range len).map g).getD i default = g i := by simp [List.getD_eq_getElem?_getD, hi']
    rw [add_none] at c0 c1 c2 c3
    refine ⟨b, off, rfl, trivial, ?_, ?_, ?_, ?_⟩
    · rw [frs, e]; exact c0
    · rw [tos, e]; exact c1
    · rw [caps, e]; exact c2
    · rw [tms, e]; exact c3

theorem reach_arcs {es sp : List (DataW H)} {n : Nat} (hn : es.length + sp.length = n) (h : (es.length + sp.length) * Try.prog.bytesOf 49 ≤ reachBytes) : n ≤ 281474976710656 := by
  rw [show Try.prog.bytesOf 49 = 32 by kernel_rfl] at h
  simp only [reachBytes] at h
  omega

set_option maxRecDepth 100000 in
/-- a network -/
theorem open_net {base : Nat} {ts : List TypeId} {ds : List (DataW H)} {j : Nat} {v : Value} {d : DataW H} {p : List MemPlace} (hval : Value.okWide Try.prog w .any base 24 v) (h : DataW.Trod enc Try.prog w 0 (fun _ => true) true 24 v d p)
    (hsz : (DataW.weightsEach Try.prog ts ds).all (· ≤ reachBytes) = true) (hj : ts[j]? = some 24) (hd : ds[j]? = some d) :
    ∃ nd hd A L c, v = .agg #[.int .i64 nd, .bool hd, .slice A (List.length L) c] ∧ RdA w (fun _ => True) A L ∧ L.length ≤ c ∧ L.length ≤ 281474976710656 := by
  obtain ⟨v0, v1, v2, y0, y1, y2, n, rfl, rfl, rfl, t0, t1, t2⟩ := open_agg3 Try.underlying24 (by kernel_rfl) (by kernel_rfl) hval h
  obtain ⟨n0, e0, _, _⟩ := DataW.trod_int Try.underlying3 t0
  obtain ⟨n1, e1, _⟩ := DataW.trod_bool Try.underlying4 t1
  obtain ⟨A, L, c, e2, hA, hc, hx⟩ := open_arcs t2
  simp only [List.cons.injEq, and_true] at e0 e1 e2
  subst e0 e1 e2
  refine ⟨n0, n1, A, L, c, rfl, hA, hc, ?_⟩
  rcases hx with ⟨_, rfl⟩ | ⟨es, sp, hx, hn⟩
  · omega
  · refine Nat.le_trans hc (reach_arcs hn ?_)
    have h1 : (es.length + sp.length) * Try.prog.bytesOf 49 ∈ DataW.weights Try.prog 22 y2.1 := by rw [hx]; simp [DataW.weights, Try.underlying22]
    have h2 : (es.length + sp.length) * Try.prog.bytesOf 49 ∈ DataW.weights Try.prog 24 (.agg [y0.1, y1.1, y2.1]) := by
      simp only [DataW.weights, Try.underlying24]
      exact DataW.weights_mem_each (j := 2) (t := 22) (d := y2.1) rfl rfl _ h1
    have := List.all_eq_true.1 hsz _ (DataW.weights_mem_each hj hd _ h2)
    simpa using this

set_option maxRecDepth 100000 in
/-- a list of ints -/
theorem open_flow {base : Nat} {ts : List TypeId} {ds : List (DataW H)} {j : Nat} {v : Value} {d : DataW H} {p : List MemPlace} (hval : Value.okWide Try.prog w .any base 25 v) (h : DataW.Trod enc Try.prog w 0 (fun _ => true) true 25 v d p)
    (hsz : (DataW.weightsEach Try.prog ts ds).all (· ≤ reachBytes) = true) (hj : ts[j]? = some 25) (hd : ds[j]? = some d) :
    ∃ F f c, v = .slice F (List.length f) c ∧ RdI w (fun _ => True) F f ∧ f.length ≤ c ∧ f.length ≤ 281474976710656 := by
  obtain ⟨a0, len0, cap0, rfl⟩ := okWide_slice Try.underlying25 hval
  obtain ⟨fuel, hf⟩ := h
  rcases open_ints Try.underlying25 Try.underlying3 (by kernel_rfl) hf with ⟨hcs, _⟩ | ⟨x, l, c, zs, hcs, _, hl, hm, hz, hx, hcell, hwz⟩
  · simp [Value.cells] at hcs
    obtain ⟨rfl, rfl, rfl⟩ := hcs
    exact ⟨none, [], 0, rfl, fun i hi => absurd hi (by simp), Nat.le_refl _, by simp⟩
  · simp [Value.cells] at hcs
    obtain ⟨rfl, rfl, rfl⟩ := hcs
    simp only [if_true] at hz
    simp only [Prod.mk.injEq] at hx
    obtain ⟨rfl, _⟩ := hx
    have hlen : (zs.take len0).length = len0 := by simp; omega
    refine ⟨some x, zs.take len0, cap0, by rw [hlen], fun i hi => ?_, by omega, ?_⟩
    · have hi' : i < len0 := by omega
      have hc := hcell i (by omega)
      obtain ⟨b, off, spot⟩ := x
      have hspot : spot = none := by simpa [Addr.add] using World.cell?_spot (hcell 0 (by omega))
      subst hspot
      rw [add_none] at hc
      refine ⟨b, off, rfl, trivial, ?_⟩
      have e : (zs.take len0).getD i 0 = zs.getD i 0 := by simp [List.getD_eq_getElem?_getD, List.getElem?_take, hi']
      rw [e]
      exact hc
    · have h1 := sized_slice hsz hj hd Try.underlying25
      rw [show Try.prog.bytesOf 3 = 8 by kernel_rfl] at h1
      simp only [lits, List.length_map, List.length_take, List.length_drop, reachBytes] at h1
      omega

/-- what a call that writes nothing that was there leaves of its arguments -/
theorem kept_all {W W' : World} (hb : Below W.heap.size W W') : ∀ (ts : List TypeId) (vs : List Value) (ds : List (DataW H)) (ps : List MemPlace), (∀ t, t ∈ ts → Try.prog.readableRec t = true ∧ t < Try.prog.types.size) →
    DataW.TrodAll enc Try.prog W 0 (fun _ => true) true ts vs ds ps → DataW.TrodAll enc Try.prog W' 0 (fun b => decide (b < W.heap.size)) true ts vs ds ps := by
  intro ts
  induction ts with
  | nil => intro vs ds ps _ h; obtain ⟨rfl, rfl, rfl⟩ := trodAll_nil h; exact trodAll_mk0
  | cons t ts ih =>
    intro vs ds ps ht h
    obtain ⟨v0, vs0, d0, ds0, p0, q0, rfl, rfl, rfl, h0, r0⟩ := trodAll_cons h
    have lt0 : ∀ x ∈ p0, x.block < W.heap.size := by obtain ⟨m, hm⟩ := h0; exact DataW.trod_lt m _ _ _ hm
    obtain ⟨h1, h2⟩ := ht t (List.mem_cons_self ..)
    exact trodAll_cons_mk (Below.trod tryLaid h1 h2 h0 hb lt0) (ih vs0 ds0 q0 (fun t ht' => ht t (List.mem_cons_of_mem _ ht')) r0)
end
end Go.Proofs.Ythbffhlfdjpfaaa
