/- How much more leaves each node than comes; whether a flow is one, and its value. -/
import Derived.Test.YthbffhlfdjpfaaaW20
import Derived.Test.YthbffhlfdjpfaaaW13
import Derived.Test.YthbffhlfdjpfaaaW9
namespace Go.Proofs.Ythbffhlfdjpfaaa
set_option linter.unusedVariables false
set_option linter.unusedSimpArgs false
open Go.RowKit

/-- the balances of N nodes, of the first j arcs -/
def balL (L : List Arc) (f : List Int) (N j : Nat) : List Int := (List.range N).map fun v : Nat => bal j (frs L) (tos L) (fls f) (v : Int)
theorem balL_len (L : List Arc) (f : List Int) (N j : Nat) : (balL L f N j).length = N := by simp [balL]
theorem balL_get (L : List Arc) (f : List Int) {N v : Nat} (j : Nat) (h : v < N) : (balL L f N j).getD v 0 = bal j (frs L) (tos L) (fls f) (v : Int) := by
  simp [balL, List.getD_eq_getElem?_getD, List.getElem?_map, List.getElem?_range h]
theorem balL_zero (L : List Arc) (f : List Int) (N : Nat) : balL L f N 0 = List.replicate N 0 := by
  apply List.ext_getElem
  · simp [balL]
  · intro i h1 h2; simp [balL, bal, sumTo]
theorem balL_step (L : List Arc) (f : List Int) {N j u x : Nat} (hu : u < N) (hx : x < N) (hf : frs L j = (u : Int)) (ht : tos L j = (x : Int)) :
    ((balL L f N j).set u ((balL L f N j).getD u 0 + fls f j)).set x (((balL L f N j).set u ((balL L f N j).getD u 0 + fls f j)).getD x 0 - fls f j) = balL L f N (j + 1) := by
  have hl := balL_len L f N j
  apply List.ext_getElem?
  intro i
  by_cases hi : i < N
  · have e1 : (balL L f N (j + 1))[i]? = some (bal (j + 1) (frs L) (tos L) (fls f) (i : Int)) := by simp [balL, List.getElem?_map, List.getElem?_range hi]
    have e2 : (balL L f N j)[i]? = some (bal j (frs L) (tos L) (fls f) (i : Int)) := by simp [balL, List.getElem?_map, List.getElem?_range hi]
    have e3 : ∀ v : Nat, v < N → (balL L f N j)[v]?.getD 0 = bal j (frs L) (tos L) (fls f) (v : Int) := fun v hv => by rw [← List.getD_eq_getElem?_getD]; exact balL_get L f j hv
    have e4 : bal (j + 1) (frs L) (tos L) (fls f) (i : Int) = bal j (frs L) (tos L) (fls f) (i : Int) + ((if (u : Int) = (i : Int) then fls f j else 0) - (if (x : Int) = (i : Int) then fls f j else 0)) := by
      rw [← hf, ← ht]; rfl
    rw [e1, e4]
    simp only [List.getD_eq_getElem?_getD, List.getElem?_set, List.length_set, hl]
    have a1 := e3 u hu
    have a2 := e3 x hx
    by_cases h1 : x = i
    · subst h1
      by_cases h2 : u = x
      · subst h2; simp [hu, a1]
      · have h2' : ¬ (u : Int) = (x : Int) := by omega
        simp [h2, h2', hx, a2]; omega
    · have h1' : ¬ (x : Int) = (i : Int) := by omega
      by_cases h2 : u = i
      · subst h2; simp [h1, h1', hu, a1]
      · have h2' : ¬ (u : Int) = (i : Int) := by omega
        simp [h1, h1', h2, h2', e2]
  · rw [List.getElem?_eq_none (by simp [hl]; omega), List.getElem?_eq_none (by rw [balL_len]; omega)]
theorem balL_bound {L : List Arc} {f : List Int} {N j v : Nat} (hj : j ≤ 200) (hv : v < N) (hf : ∀ i, i < j → 0 ≤ fls f i ∧ fls f i ≤ 1048576) : -209715200 ≤ (balL L f N j).getD v 0 ∧ (balL L f N j).getD v 0 ≤ 209715200 := by
  rw [balL_get L f j hv]
  have := bal_bound (k := j) (fr := frs L) (h := tos L) (s := (v : Int)) hf
  omega

def BalPost (w : World) (nd : Int) (L : List Arc) (f : List Int) (e : Ending) (w' : World) : Prop :=
  ∃ v, e = .returned (.tuple #[v, .int .i64 (flowE nd L f)]) ∧ Below w.heap.size w w' ∧ (flowE nd L f ≠ 0 → v = .slice none 0 0) ∧ (flowE nd L f = 0 → ∃ b, v = .slice (some ⟨b, 0, none⟩) nd.toNat nd.toNat ∧ Blk w' b 3 (encI (balL L f nd.toNat L.length)))

/-- within the loop over the arcs -/
structure BalI (w wr : World) (N : Nat) (hd : Bool) (A : Option Addr) (L : List Arc) (c b : Nat) (xs : List Int) : Prop where
  below : Below w.heap.size w wr
  box : Blk wr w.heap.size 24 [.int .i64 (N : Int), .bool hd, .slice A L.length c]
  blk : Blk wr b 3 (encI xs)
  lo : w.heap.size < b
theorem BalI.alloc {w wr : World} {N : Nat} {hd : Bool} {A : Option Addr} {L : List Arc} {c b : Nat} {xs : List Int} (h : BalI w wr N hd A L c b xs) (o : Obj) : BalI w (wr.alloc o) N hd A L c b xs := ⟨h.below.alloc h.below.size _, h.box.alloc _, h.blk.alloc _, h.lo⟩
theorem BalI.drew {w wr : World} {N : Nat} {hd : Bool} {A : Option Addr} {L : List Arc} {c b : Nat} {xs : List Int} (h : BalI w wr N hd A L c b xs) : BalI w wr.drew N hd A L c b xs := ⟨h.below.drew, h.box.drew, h.blk.drew, h.lo⟩
theorem BalI.set {w wr : World} {N : Nat} {hd : Bool} {A : Option Addr} {L : List Arc} {c b : Nat} {xs : List Int} (h : BalI w wr N hd A L c b xs) (u : Nat) (y : Int) : BalI w (wr.setCell ⟨b, u, none⟩ (.int .i64 y)) N hd A L c b (xs.set u y) :=
  ⟨h.below.setCell (p := ⟨b, u, none⟩) (by have := h.lo; show w.heap.size ≤ b; omega) _, h.box.far (by have := h.lo; show w.heap.size ≠ b; omega) _, by rw [← encI_set]; exact h.blk.set u _, h.lo⟩
theorem BalI.cell {w wr : World} {N : Nat} {hd : Bool} {A : Option Addr} {L : List Arc} {c b : Nat} {xs : List Int} (h : BalI w wr N hd A L c b xs) {u : Nat} (hu : u < xs.length) : wr.cell? ⟨b, u, none⟩ = some (.int .i64 (xs.getD u 0)) :=
  h.blk.cell u (by simp [encI, List.getElem?_eq_getElem hu, List.getD_eq_getElem?_getD])

set_option maxRecDepth 10000 in
set_option maxHeartbeats 2000000 in
theorem balance_calls {w : World} {okA okF : Nat → Prop} {A F : Option Addr} {L : List Arc} {f : List Int} (nd : Int) (hd : Bool) (c c' : Nat) (hA : RdA w okA A L) (hL : L.length ≤ 281474976710656) (hF : RdI w okF F f) (hf : f.length ≤ 281474976710656) :
    Calls Try.prog 106 #[.agg #[.int .i64 nd, .bool hd, .slice A L.length c], .slice F f.length c'] w (BalPost w nd L f) := by
  have hc := fun w1 (hb : Below w.heap.size w w1) => sasked_calls nd hd c c' (hA.fr (Fr.of_below (S := NoB) hb) (fun _ _ h => h)) hL (hF.fr (Fr.of_below (S := NoB) hb) (fun _ _ h => h)) hf
  obtain ⟨k, hk⟩ : ∃ k, flowE nd L f = k := ⟨_, rfl⟩
  simp only [hk] at hc
  have HC := Lib.hid hc
  have HK := Lib.hid hk
  have HA := Lib.hid hA
  have HF := Lib.hid hF
  clear hc hk hA hF
  have hbx := Blk.new w [.int .i64 nd, .bool hd, .slice A L.length c] 24
  have HBX := Lib.hid hbx
  clear hbx
  by_cases h0 : k = 0
  · subst h0
    obtain ⟨z1, z2, z3⟩ := flowE_zero HK.out
    obtain ⟨N, rfl, hR⟩ := netE_zero z1
    have hN := hR.n1
    have hL2 := hR.len
    have hmk1 := mk1 (P := Try.prog) 25 3 (.int .i64 0) 8 Try.underlying25 info3 rfl (by omega) N (by omega)
    have Z2 := Lib.hid z2
    have Z3 := Lib.hid z3
    have HR := Lib.hid hR
    have hlf : (L.length : Int) ≤ (f.length : Int) := by omega
    clear z1 z2 z3 hR
    go_enter Try.func106, Try.ntmps106
    go_wp2_with fail
    refine (HC.out _ one_new).mono ?_
    rintro e w1 ⟨rfl, hb1⟩
    have hq := HBX.out.below hb1
    have x0 := hq.cell 0 rfl
    have x1 := hq.cell 1 rfl
    have x2 := hq.cell 2 rfl
    have xl := hq.lt
    have hbw := (one_new (w := w)).trans (hb1.mono (by simp))
    have hI0 : BalI w (w1.alloc (.cells (madeCells #[.int .i64 0] N) 3)) N hd A L c w1.heap.size (balL L f N 0) :=
      ⟨hbw.alloc hbw.size _, hq.alloc _, by rw [balL_zero]; simpa [encI] using Blk.made w1 (.int .i64 0) N 3, xl⟩
    have HI0 := Lib.hid hI0
    clear hq hb1 hbw hI0
    go_wp2
    go_loopw [22] (fun i wr => ∃ j : Nat, j ≤ L.length ∧ i = .int .i64 j ∧ Hid (BalI w wr N hd A L c w1.heap.size (balL L f N j))) (fun i _ => L.length - (intOf i).toNat)
    case atStart => exact ⟨0, Nat.zero_le _, rfl, HI0⟩
    case round =>
      clear HI0
      obtain ⟨j, hj, rfl, hI⟩ := hrel
      have y2 := hI.out.box.cell 2 rfl
      have yl := hI.out.box.lt
      by_cases hlt : j < L.length
      · obtain ⟨b, off, rfl, _, a0, a1, a2, a3⟩ := HA.out j hlt
        obtain ⟨b', off', rfl, _, g0⟩ := fls_cell HF.out (show j < f.length by omega)
        have a0' := cell_kept hI.out.below a0
        have a1' := cell_kept hI.out.below a1
        have a2' := cell_kept hI.out.below a2
        have a3' := cell_kept hI.out.below a3
        have g0' := cell_kept hI.out.below g0
        have bl := World.block_lt_of_cell? _ _ a2'
        have bl' := World.block_lt_of_cell? _ _ g0'
        have hbl := hI.out.blk.lt
        have hlo := hI.out.lo
        have hbl2 := hI.out.blk.lt
        have hends := HR.out.arcs.ends j hlt
        obtain ⟨u, hu⟩ := Int.eq_ofNat_of_zero_le hends.1.1
        obtain ⟨x, hx⟩ := Int.eq_ofNat_of_zero_le hends.2.1
        have hu2 : u < N := by have := hends.1.2; omega
        have hx2 : x < N := by have := hends.2.2; omega
        have hfj := Z3.out j hlt
        have hcj := HR.out.arcs.cap j hlt
        have hcap : ∀ i, i < j → 0 ≤ fls f i ∧ fls f i ≤ 1048576 := fun i hi => by have h1 := Z3.out i (by omega); have h2 := HR.out.arcs.cap i (by omega); omega
        rw [hu] at a0'
        rw [hx] at a1'
        obtain ⟨fj, hfe⟩ : ∃ q, fls f j = q := ⟨_, rfl⟩
        rw [hfe] at g0' hfj
        have hb1 := balL_bound (L := L) (N := N) (v := u) (by omega) hu2 hcap
        have cu := hI.out.cell (u := u) (by rw [balL_len]; exact hu2)
        obtain ⟨p, hp⟩ : ∃ q, (balL L f N j).getD u 0 = q := ⟨_, rfl⟩
        rw [hp] at hb1 cu
        have fu := hI.out.blk.free u
        have hI1 := hI.out.set u (p + fj)
        have hne : b ≠ w1.heap.size := by have : b < w.heap.size := World.block_lt_of_cell? _ _ a2; omega
        have hne' : b' ≠ w1.heap.size := by have : b' < w.heap.size := World.block_lt_of_cell? _ _ g0; omega
        have hb2 : -419430400 ≤ ((balL L f N j).set u (p + fj)).getD x 0 ∧ ((balL L f N j).set u (p + fj)).getD x 0 ≤ 419430400 := by
          have hx3 := balL_bound (L := L) (N := N) (v := x) (by omega) hx2 hcap
          rw [List.getD_eq_getElem?_getD, List.getElem?_set]
          split
          · split
            · simp; omega
            · simp
          · rw [← List.getD_eq_getElem?_getD]; omega
        have cx := hI1.cell (u := x) (by rw [List.length_set, balL_len]; exact hx2)
        have fx := hI1.blk.free x
        obtain ⟨q, hq⟩ : ∃ q, ((balL L f N j).set u (p + fj)).getD x 0 = q := ⟨_, rfl⟩
        rw [hq] at hb2 cx
        have hI2 := hI1.set x (q - fj)
        have e1 : IntKind.i64.wrap (p + fj) = p + fj := IntWalk.i64_in _ (by omega)
        have e2 : IntKind.i64.wrap (q - fj) = q - fj := IntWalk.i64_in _ (by omega)
        have hstep : ((balL L f N j).set u (p + fj)).set x (q - fj) = balL L f N (j + 1) := by
          rw [← balL_step L f hu2 hx2 hu hx, hp, hfe, hq]
        rw [hstep] at hI2
        have HI2 := Lib.hid hI2
        have i0 : (0 : Int) ≤ (u : Int) := by omega
        have i1 : (u : Int) < (N : Int) := by omega
        have i2 : (0 : Int) ≤ (x : Int) := by omega
        have i3 : (x : Int) < (N : Int) := by omega
        have i4 : (j : Int) < (f.length : Int) := by omega
        clear hI1 hI2 hstep hp hq hfe hcap hends hu hx a0 a1 a2 a3 g0
        go_wp2
        go_region
        go_wp2
        go_region
        go_wp2
        go_roundw
        case rel => exact ⟨j + 1, by omega, by go_num, (HI2.out.alloc _).drew.drew⟩
        case measure => simp [intOf]; omega
      · have e : j = L.length := by omega
        subst e
        go_wp2
        refine bodyPost_ret (v := .tuple #[.slice (some ⟨w1.heap.size, 0, none⟩) N N, .int .i64 0]) (by simp only [results, Try.results106]; simp [go_sem]) rfl ⟨.slice (some ⟨w1.heap.size, 0, none⟩) N N, by rw [HK.out], hI.out.below, fun h => absurd HK.out h, fun _ => ⟨w1.heap.size, by rw [Int.toNat_natCast], by rw [Int.toNat_natCast]; exact hI.out.blk⟩⟩
  · have e1 : (k != 0) = true := by simp [h0]
    go_enter Try.func106, Try.ntmps106
    go_wp2_with fail
    refine (HC.out _ one_new).mono ?_
    rintro e w1 ⟨rfl, hb1⟩
    have hbw := (one_new (w := w)).trans (hb1.mono (by simp))
    have HBW := Lib.hid hbw
    clear hb1 hbw
    go_wp2
    refine bodyPost_ret (v := .tuple #[.slice none 0 0, .int .i64 k]) (by simp only [results, Try.results106]; simp [go_sem]) rfl ⟨.slice none 0 0, by rw [HK.out], HBW.out, fun _ => rfl, fun h => absurd (HK.out.symm.trans h) h0⟩
end Go.Proofs.Ythbffhlfdjpfaaa
