/- The document's word on what a flow is worth. -/
import Derived.Test.YthbffhlfdjpfaaaR3
namespace Go.Proofs.Ythbffhlfdjpfaaa
set_option linter.unusedVariables false
set_option linter.unusedSimpArgs false
open Go.RowKit

set_option maxRecDepth 10000 in
set_option maxHeartbeats 2000000 in
theorem rworth_calls {w : World} {okA okF : Nat → Prop} {A F : Option Addr} {L : List Arc} {f : List Int} (nd : Int) (hd : Bool) (c c' : Nat) (s t h : Int) (hA : RdA w okA A L) (hL : L.length ≤ 281474976710656) (hF : RdI w okF F f) (hf : f.length ≤ 281474976710656) :
    Calls Try.prog 28 #[.agg #[.int .i64 nd, .bool hd, .slice A L.length c], .int .i64 s, .int .i64 t, .slice F f.length c', .int .i64 h] w fun e w' => e = .returned (.tuple #[.int .i64 (worthV nd L s t f h), .int .i64 (worthE nd L s t f h)]) ∧ Below w.heap.size w w' := by
  have hc' := fun w1 (hb : Below w.heap.size w w1) => rasked_calls nd hd c s t h (hA.fr (Fr.of_below (S := NoB) hb) (fun _ _ h => h)) hL
  have hch := fun w1 (hb : Below w.heap.size w w1) => rcheckf_calls nd hd c c' s t (hA.fr (Fr.of_below (S := NoB) hb) (fun _ _ h => h)) hL (hF.fr (Fr.of_below (S := NoB) hb) (fun _ _ h => h)) hf
  have hco := fun w1 (hb : Below w.heap.size w w1) => rcost_calls nd hd c c' (hA.fr (Fr.of_below (S := NoB) hb) (fun _ _ h => h)) hL (hF.fr (Fr.of_below (S := NoB) hb) (fun _ _ h => h)) hf
  obtain ⟨k, hk⟩ : ∃ k, askedE nd L s t h = k := ⟨_, rfl⟩
  simp only [hk] at hc'
  have HC := Lib.hid hc'
  have HCH := Lib.hid hch
  have HCO := Lib.hid hco
  have HK := Lib.hid hk
  clear hc' hch hco hk hA hF
  have HBX := Lib.hid (Blk.new w [.int .i64 nd, .bool hd, .slice A L.length c] 24)
  go_enter Try.func28, Try.ntmps28
  go_wp2_with fail
  refine (HC.out _ one_new).mono ?_
  rintro e w1 ⟨rfl, hb1⟩
  have hq := HBX.out.below hb1
  have x0 := hq.cell 0 rfl
  have x1 := hq.cell 1 rfl
  have x2 := hq.cell 2 rfl
  have xl := hq.lt
  have HBW := Lib.hid ((one_new (w := w)).trans (hb1.mono (by simp)))
  have HQ := Lib.hid hq
  clear hq hb1
  by_cases h0 : k = 0
  · subst h0
    obtain ⟨q, hq⟩ : ∃ q, checkE nd L s t f = q := ⟨_, rfl⟩
    have hE : worthE nd L s t f h = q := by rw [worthE, if_neg (by rw [HK.out]; simp), hq]
    have HQE := Lib.hid hq
    have HE := Lib.hid hE
    clear hE hq
    go_wp2_with fail
    refine (HCH.out _ HBW.out).mono ?_
    rintro e w2 ⟨rfl, hb2⟩
    have hq2 := HQ.out.below hb2
    have x0 := hq2.cell 0 rfl
    have x1 := hq2.cell 1 rfl
    have x2 := hq2.cell 2 rfl
    have xl := hq2.lt
    have HBW2 := Lib.hid (below_then' HBW.out hb2)
    rw [HQE.out]
    clear hq2 hb2
    by_cases hq0 : q = 0
    · subst hq0
      obtain ⟨hh0, hh1⟩ : 0 ≤ h ∧ h ≤ 1024 := by obtain ⟨_, _, _, _, _, _, a, b⟩ := askedE_zero HK.out; exact ⟨a, b⟩
      obtain ⟨N, rfl, hR, hs, ht, hst, hfl⟩ := checkE_zero HQE.out
      obtain ⟨⟨v0, v1⟩, p0, p1⟩ := worth_bounds hR hfl.flow s
      have hfE : flowE (N : Int) L f = 0 := flowE_ok hR.netE hfl.len hfl.flow
      have hcv : checkV (N : Int) L s t f = bal L.length (frs L) (tos L) (fls f) s := by rw [checkV, if_pos HQE.out]
      obtain ⟨v, hv⟩ : ∃ v, bal L.length (frs L) (tos L) (fls f) s = v := ⟨_, rfl⟩
      obtain ⟨p, hp⟩ : ∃ p, paidF L f = p := ⟨_, rfl⟩
      rw [hcv, hv]
      have hco := HCO.out _ HBW2.out
      rw [if_pos hfE, hfE, hp] at hco
      have HPA := Lib.hid hco
      rw [hv] at v0 v1
      rw [hp] at p0 p1
      have hm := mul_wrap hh0 hh1 ⟨v0, v1⟩
      have e1 : IntKind.i64.wrap (h + 1) = h + 1 := IntWalk.i64_in _ (by omega)
      obtain ⟨m, hmm⟩ : ∃ m, (h + 1) * v = m := ⟨_, rfl⟩
      rw [hmm] at hm
      have e2 : IntKind.i64.wrap ((h + 1) * v) = (h + 1) * v := by rw [hmm]; exact IntWalk.i64_in _ (by omega)
      have e3 : IntKind.i64.wrap ((h + 1) * v - p) = (h + 1) * v - p := by rw [hmm]; exact IntWalk.i64_in _ (by omega)
      have hw : worthV (N : Int) L s t f h = (h + 1) * v - p := by
        rw [worthV, if_pos HE.out, worthOf, hv, ← hp]; rfl
      have HW := Lib.hid hw
      clear hmm hm hw hp hv hcv hR hfl hs ht hst hco hfE
      go_wp2_with fail
      refine HPA.out.mono ?_
      rintro e w3 ⟨rfl, hb3⟩
      go_wp2
      refine bodyPost_ret (v := .tuple #[.int .i64 ((h + 1) * v - p), .int .i64 0]) (by simp only [results, Try.results28]; simp [go_sem, e1, e2, e3]) rfl ⟨by rw [HW.out, HE.out], below_then' HBW2.out hb3⟩
    · have e1 : (q != 0) = true := by simp [hq0]
      go_wp2
      refine bodyPost_ret (v := .tuple #[.int .i64 0, .int .i64 q]) (by simp only [results, Try.results28]; simp [go_sem]) rfl ⟨by rw [worthV, HE.out, if_neg hq0], HBW2.out⟩
  · have e1 : (k != 0) = true := by simp [h0]
    have hE : worthE nd L s t f h = k := by rw [worthE, if_pos (by rw [HK.out]; exact h0), HK.out]
    have HE := Lib.hid hE
    clear hE
    go_wp2
    refine bodyPost_ret (v := .tuple #[.int .i64 0, .int .i64 k]) (by simp only [results, Try.results28]; simp [go_sem]) rfl ⟨by rw [worthV, HE.out, if_neg h0], HBW.out⟩
end Go.Proofs.Ythbffhlfdjpfaaa
