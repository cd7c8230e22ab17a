/- What any right program answers of flows within horizons. -/
import Derived.Test.YthbffhlfdjpfaaaW23
namespace Go.Proofs.Ythbffhlfdjpfaaa
set_option linter.unusedVariables false
set_option linter.unusedSimpArgs false
open Go.RowKit

def enc4 (a : Arc) : List Value := [.int .i64 a.fr, .int .i64 a.to, .int .i64 a.cap, .int .i64 a.tm]
def encA (L : List Arc) : List Value := L.flatMap enc4
theorem encA_len (L : List Arc) : (encA L).length = L.length * 4 := by
  induction L with
  | nil => rfl
  | cons s l ih => simp only [encA, List.flatMap_cons, List.length_append, List.length_cons, enc4, List.length_nil] at ih ⊢; omega
theorem encA_get (L : List Arc) (i : Nat) (hi : i < L.length) : (encA L)[i * 4]? = some (.int .i64 (frs L i)) ∧ (encA L)[i * 4 + 1]? = some (.int .i64 (tos L i)) ∧ (encA L)[i * 4 + 2]? = some (.int .i64 (caps L i)) ∧ (encA L)[i * 4 + 3]? = some (.int .i64 (tms L i)) := by
  induction L generalizing i with
  | nil => simp at hi
  | cons s l ih =>
    cases i with
    | zero => simp [encA, enc4, frs, tos, caps, tms]
    | succ i =>
      have h := ih i (by simpa using hi)
      have e : encA (s :: l) = .int .i64 s.fr :: .int .i64 s.to :: .int .i64 s.cap :: .int .i64 s.tm :: encA l := rfl
      rw [e, show (i + 1) * 4 = i * 4 + 1 + 1 + 1 + 1 by omega]
      simpa [frs, tos, caps, tms] using h
theorem Blk.rdA {w : World} {b : Nat} {T : TypeId} {L : List Arc} (h : Blk w b T (encA L)) {ok : Nat → Prop} (hb : ok b) : RdA w ok (some ⟨b, 0, none⟩) L := fun i hi => by
  obtain ⟨h0, h1, h2, h3⟩ := encA_get L i hi
  exact ⟨b, 0, rfl, hb, by rw [Nat.zero_add]; exact h.cell _ h0, by rw [Nat.zero_add]; exact h.cell _ h1, by rw [Nat.zero_add]; exact h.cell _ h2, by rw [Nat.zero_add]; exact h.cell _ h3⟩

set_option maxRecDepth 10000 in
set_option maxHeartbeats 1000000 in
theorem awake12_calls (w : World) : Calls Try.prog 29 #[] w fun e w' => e = .returned (.bool true) ∧ Below w.heap.size w w' := by
  have hmost : ∀ (h : Int) (W : World) (b : Nat), Blk W b 49 (encA twoL) → Calls Try.prog 31 #[.agg #[.int .i64 3, .bool false, .slice (some ⟨b, 0, none⟩) 2 2], .int .i64 0, .int .i64 2, .int .i64 h] W (MostPost W 3 twoL 0 2 h) := by
    intro h W b hB
    exact most_calls 3 false 2 0 2 h (hB.rdA (ok := fun k => k = b) rfl) (by simp [twoL]) (by simp [twoL])
  have HM := Lib.hid hmost
  clear hmost
  have a1 : askedE 3 twoL 0 2 1 = 0 := twoL_right.askedE ⟨by omega, by omega⟩ ⟨by omega, by omega⟩ (by omega) (by omega)
  have a5 : askedE 3 twoL 0 2 5 = 0 := twoL_right.askedE ⟨by omega, by omega⟩ ⟨by omega, by omega⟩ (by omega) (by omega)
  have am : askedE 3 twoL 0 2 (-1) = 1 := by
    unfold askedE
    rw [if_neg (by simpa using (twoL_right.endsE (s := 0) (t := 2) ⟨by omega, by omega⟩ ⟨by omega, by omega⟩ (by omega)))]
    rfl
  have hfw : Flw twoL 3 0 2 [1, 1] := ⟨rfl, fun i hi => by
      rcases Nat.lt_or_ge i 1 with h | h
      · have : i = 0 := by omega
        subst this; simp [caps, twoL, fls]
      · have : i = 1 := by simp only [twoL_len] at hi; omega
        subst this; simp [caps, twoL, fls], fun v hv h1 h2 => by
      have : v = 1 := by obtain ⟨a, b⟩ := hv; omega
      subst this
      simp [bal, sumTo, frs, tos, twoL, fls]⟩
  have aw : worthE 3 twoL 0 2 [1, 1] 2 = 0 := by
    unfold worthE
    rw [if_neg (by simpa using (twoL_right.askedE (s := 0) (t := 2) (k := 2) ⟨by omega, by omega⟩ ⟨by omega, by omega⟩ (by omega) (by omega)))]
    exact checkE_ok (N := 3) (s := 0) (t := 2) twoL_right ⟨by omega, by omega⟩ ⟨by omega, by omega⟩ (by omega) hfw
  have av : worthV 3 twoL 0 2 [1, 1] 2 = 1 := by
    rw [worthV, if_pos aw]
    simp [worthOf, costOf, bal, sumTo, frs, tos, tms, twoL, fls]
  have A1 := Lib.hid a1
  have A5 := Lib.hid a5
  have AM := Lib.hid am
  have hwo : ∀ (W : World) (b b2 : Nat), Blk W b 49 (encA twoL) → Blk W b2 3 [.int .i64 1, .int .i64 1] → Calls Try.prog 27 #[.agg #[.int .i64 3, .bool false, .slice (some ⟨b, 0, none⟩) 2 2], .int .i64 0, .int .i64 2, .slice (some ⟨b2, 0, none⟩) 2 2, .int .i64 2] W fun e w' => e = .returned (.tuple #[.int .i64 1, .int .i64 0]) ∧ Below W.heap.size W w' := by
    intro W b b2 hB hB2
    have h := worth_calls (f := [1, 1]) 3 false 2 2 0 2 2 (hB.rdA (ok := fun k => k = b) rfl) (by simp [twoL]) ((show Blk W b2 3 (encI [1, 1]) from hB2).rdI (ok := fun k => k = b2) rfl) (by simp)
    rwa [aw, av] at h
  have HW := Lib.hid hwo
  clear a1 a5 am aw av hfw hwo
  go_enter Try.func29, Try.ntmps29
  go_wp2_with fail
  refine (HM.out _ _ _ ?_).mono ?_
  · exact (Blk.new w (encA twoL) 49).alloc _
  rintro e w1 ⟨k1, rfl, hb1, _, h1⟩
  have hb1' : Below w.heap.size w w1 := two_new.trans (hb1.mono (by simp; omega))
  have hq := (Blk.new w (encA twoL) 49).alloc (.cells #[.int .i64 3, .bool false, .slice (some ⟨w.heap.size, 0, none⟩) 2 2] 24)
  have hx := Blk.new' (w := w.alloc (.cells (encA twoL).toArray 49)) (n := w.heap.size + 1) (by simp) [.int .i64 3, .bool false, .slice (some ⟨w.heap.size, 0, none⟩) 2 2] 24
  have HQ1 := Lib.hid (hq.below hb1)
  have hx1 := hx.below hb1
  have HX1 := Lib.hid hx1
  have HB1 := Lib.hid hb1'
  have K1 := Lib.hid (twoL_one (h1 A1.out))
  rw [A1.out, K1.out]
  have x0 := hx1.cell 0 rfl
  have x1 := hx1.cell 1 rfl
  have x2 := hx1.cell 2 rfl
  have xl := hx1.lt
  clear hb1 hb1' hq hx hx1 h1
  go_wp2_with fail
  refine (HM.out _ _ _ HQ1.out).mono ?_
  rintro e w2 ⟨k2, rfl, hb2, _, h2⟩
  have HQ2 := Lib.hid (HQ1.out.below hb2)
  have hx2 := HX1.out.below hb2
  have HX2 := Lib.hid hx2
  have HB2 := Lib.hid (below_then' HB1.out hb2)
  have K2 := Lib.hid (twoL_five (h2 A5.out))
  rw [A5.out, K2.out]
  have x0 := hx2.cell 0 rfl
  have x1 := hx2.cell 1 rfl
  have x2 := hx2.cell 2 rfl
  have xl := hx2.lt
  clear hb2 hx2 h2
  go_wp2_with fail
  refine (HW.out _ _ _ (HQ2.out.alloc _) (Blk.new w2 [.int .i64 1, .int .i64 1] 3)).mono ?_
  rintro e w3 ⟨rfl, hb3⟩
  have HQ3 := Lib.hid ((HQ2.out.alloc _).below hb3)
  have hx3 := (HX2.out.alloc _).below hb3
  have HX3 := Lib.hid hx3
  have HB3 := Lib.hid (below_then' (HB2.out.alloc HB2.out.size _) hb3)
  have x0 := hx3.cell 0 rfl
  have x1 := hx3.cell 1 rfl
  have x2 := hx3.cell 2 rfl
  have xl := hx3.lt
  clear hb3 hx3
  go_wp2_with fail
  refine (HM.out _ _ _ HQ3.out).mono ?_
  rintro e w4 ⟨k4, rfl, hb4, _, _⟩
  rw [AM.out]
  have HB4 := Lib.hid (below_then' HB3.out hb4)
  clear hb4
  go_wp2
  go_ret
  exact ⟨rfl, HB4.out⟩
end Go.Proofs.Ythbffhlfdjpfaaa
