/- A flow that is worth most, and how much; what a flow is worth. -/
import Derived.Test.YthbffhlfdjpfaaaW22
import Derived.Test.YthbffhlfdjpfaaaW19
namespace Go.Proofs.Ythbffhlfdjpfaaa
set_option linter.unusedVariables false
set_option linter.unusedSimpArgs false
open Go.RowKit

def BestPost (w : World) (nd : Int) (L : List Arc) (s t h : Int) (e : Ending) (w' : World) : Prop :=
  ∃ v k, e = .returned (.tuple #[v, .int .i64 k, .int .i64 (askedE nd L s t h)]) ∧ Below w.heap.size w w' ∧ (askedE nd L s t h ≠ 0 → v = .slice none 0 0 ∧ k = 0) ∧
    (askedE nd L s t h = 0 → ∃ b f, v = .slice (some ⟨b, 0, none⟩) L.length L.length ∧ w.heap.size ≤ b ∧ Blk w' b 3 (encI f) ∧ f.length = L.length ∧ Bst L.length nd.toNat (frs L) (tos L) (caps L) (tms L) s t (h + 1) (fls f) ∧ k = worthOf L.length (frs L) (tos L) (tms L) (fls f) s (h + 1))

theorem worth_bounds {L : List Arc} {N : Nat} {f : List Int} (hR : Right L N) (hf : IsFlow L.length (caps L) (fls f)) (s : Int) :
    (-209715200 ≤ bal L.length (frs L) (tos L) (fls f) s ∧ bal L.length (frs L) (tos L) (fls f) s ≤ 209715200) ∧ 0 ≤ paidF L f ∧ paidF L f ≤ 219902325555200 := by
  have h1 : ∀ i, i < L.length → 0 ≤ fls f i ∧ fls f i ≤ 1048576 := fun i hi => by have := hf i hi; have := hR.arcs.cap i hi; omega
  have h2 := bal_bound (k := L.length) (fr := frs L) (h := tos L) (s := s) h1
  have h3 := paid_bound (k := L.length) h1 hR.arcs.tm
  have h4 := hR.len
  unfold paidF
  omega
theorem mul_wrap {h v : Int} (h0 : 0 ≤ h) (h1 : h ≤ 1024) (v0 : -209715200 ≤ v ∧ v ≤ 209715200) : -214958080000 ≤ (h + 1) * v ∧ (h + 1) * v ≤ 214958080000 := by
  have a1 := Int.mul_le_mul_of_nonneg_left v0.2 (show 0 ≤ h + 1 by omega)
  have a2 := Int.mul_le_mul_of_nonneg_left v0.1 (show 0 ≤ h + 1 by omega)
  omega

set_option maxRecDepth 10000 in
set_option maxHeartbeats 2000000 in
theorem best_calls {w : World} {okA : Nat → Prop} {A : Option Addr} {L : List Arc} (nd : Int) (hd : Bool) (c : Nat) (s t h : Int) (hA : RdA w okA A L) (hL : L.length ≤ 281474976710656) (hc : L.length ≤ c) :
    Calls Try.prog 33 #[.agg #[.int .i64 nd, .bool hd, .slice A L.length c], .int .i64 s, .int .i64 t, .int .i64 h] w (BestPost w nd L s t h) := by
  have hc' := fun w1 (hb : Below w.heap.size w w1) => asked_calls nd hd c s t h (hA.fr (Fr.of_below (S := NoB) hb) (fun _ _ h => h)) hL
  obtain ⟨k, hk⟩ : ∃ k, askedE nd L s t h = k := ⟨_, rfl⟩
  simp only [hk] at hc'
  have HC := Lib.hid hc'
  have HK := Lib.hid hk
  have HA := Lib.hid hA
  clear hc' hk hA
  have HBX := Lib.hid (Blk.new w [.int .i64 nd, .bool hd, .slice A L.length c] 24)
  go_enter Try.func33, Try.ntmps33
  go_wp2_with fail
  refine (HC.out _ one_new).mono ?_
  rintro e w1 ⟨rfl, hb1⟩
  have hq := HBX.out.below hb1
  have x0 := hq.cell 0 rfl
  have x1 := hq.cell 1 rfl
  have x2 := hq.cell 2 rfl
  have xl := hq.lt
  have HBW := Lib.hid ((one_new (w := w)).trans (hb1.mono (by simp)))
  have HQ := Lib.hid hq
  clear hq hb1
  by_cases h0 : k = 0
  · subst h0
    obtain ⟨N, rfl, hR, hs, ht, hst, hh0, hh1⟩ := askedE_zero HK.out
    obtain ⟨sn, rfl⟩ := Int.eq_ofNat_of_zero_le hs.1
    obtain ⟨tn, rfl⟩ := Int.eq_ofNat_of_zero_le ht.1
    have hsN : sn < N := by have := hs.2; omega
    have htN : tn < N := by have := ht.2; omega
    have HF := Lib.hid (fill_calls hd c sn tn h hR (HA.out.fr (Fr.of_below (S := NoB) HBW.out) (fun _ _ h => h)) hc hsN htN (by omega) hh0 hh1)
    have HR := Lib.hid hR
    clear hs ht hst hR
    go_wp2_with fail
    refine HF.out.mono ?_
    rintro e w2 ⟨bF, bD, bI, bB, f, rfl, hbF, hblk, hfl, hbst, hb2⟩
    have hq2 := HQ.out.below hb2
    have hbw2 := below_then' HBW.out hb2
    have x0 := hq2.cell 0 rfl
    have x1 := hq2.cell 1 rfl
    have x2 := hq2.cell 2 rfl
    have xl := hq2.lt
    obtain ⟨⟨v0, v1⟩, p0, p1⟩ := worth_bounds HR.out hbst.flow (sn : Int)
    have hfb : ∀ i, i < L.length → 0 ≤ fls f i ∧ fls f i ≤ 1048576 := fun i hi => by have := hbst.flow i hi; have := HR.out.arcs.cap i hi; omega
    obtain ⟨v, hv⟩ : ∃ v, bal L.length (frs L) (tos L) (fls f) (sn : Int) = v := ⟨_, rfl⟩
    obtain ⟨p, hp⟩ : ∃ p, paidF L f = p := ⟨_, rfl⟩
    have hval : ∀ W : World, Below w2.heap.size w2 W → Calls Try.prog 71 #[.agg #[.int .i64 (N : Int), .bool hd, .slice A L.length c], .int .i64 (sn : Int), .slice (some ⟨bF, 0, none⟩) L.length L.length] W fun e w' => e = .returned (.int .i64 v) ∧ Below W.heap.size W w' := by
      intro W hb
      have h := value_calls (N : Int) hd c L.length (sn : Int) (HA.out.fr (Fr.of_below (S := NoB) (below_then' hbw2 hb)) (fun _ _ h => h)) HR.out.len ((hblk.below hb).rdI (ok := fun k => k = bF) rfl) hfl hfb
      rwa [hfl, hv] at h
    have hpaid : ∀ W : World, Below w2.heap.size w2 W → Calls Try.prog 68 #[.agg #[.int .i64 (N : Int), .bool hd, .slice A L.length c], .slice (some ⟨bF, 0, none⟩) L.length L.length] W fun e w' => e = .returned (.int .i64 p) ∧ Below W.heap.size W w' := by
      intro W hb
      have h := paid_calls (N : Int) hd c L.length (HA.out.fr (Fr.of_below (S := NoB) (below_then' hbw2 hb)) (fun _ _ h => h)) HR.out.len ((hblk.below hb).rdI (ok := fun k => k = bF) rfl) hfl HR.out.arcs.tm hfb
      rwa [hfl, hp] at h
    rw [hv] at v0 v1
    rw [hp] at p0 p1
    have hm := mul_wrap hh0 hh1 ⟨v0, v1⟩
    have e1 : IntKind.i64.wrap (h + 1) = h + 1 := IntWalk.i64_in _ (by omega)
    obtain ⟨m, hmm⟩ : ∃ m, (h + 1) * v = m := ⟨_, rfl⟩
    rw [hmm] at hm
    have e2 : IntKind.i64.wrap ((h + 1) * v) = (h + 1) * v := by rw [hmm]; exact IntWalk.i64_in _ (by omega)
    have e3 : IntKind.i64.wrap ((h + 1) * v - p) = (h + 1) * v - p := by rw [hmm]; exact IntWalk.i64_in _ (by omega)
    have hfin : ∀ W, Below w2.heap.size w2 W → BestPost w (N : Int) L (sn : Int) (tn : Int) h (.returned (.tuple #[.slice (some ⟨bF, 0, none⟩) L.length L.length, .int .i64 ((h + 1) * v - p), .int .i64 0])) W := by
      intro W hb
      refine ⟨_, _, by rw [HK.out], below_then' hbw2 hb, fun h => absurd HK.out h, fun _ => ⟨bF, f, rfl, Nat.le_trans HBW.out.size hbF, hblk.below hb, hfl, by rw [Int.toNat_natCast]; exact hbst, ?_⟩⟩
      rw [worthOf, hv, ← hp]; rfl
    have mk : ∀ W, Below w2.heap.size w2 W → (W.cell? ⟨w.heap.size, 0, none⟩ = some (.int .i64 (N : Int)) ∧ W.cell? ⟨w.heap.size, 1, none⟩ = some (.bool hd) ∧ W.cell? ⟨w.heap.size, 2, none⟩ = some (.slice A L.length c)) :=
      fun W hb => ⟨cell_kept hb x0, cell_kept hb x1, cell_kept hb x2⟩
    have HVAL := Lib.hid hval
    have HPAID := Lib.hid hpaid
    have HFIN := Lib.hid hfin
    have MK := Lib.hid mk
    clear hval hpaid hfin mk hv hp hmm hm hq2 hbw2 hblk hfl hbst hb2 hfb
    go_wp2
    go_region_held3 (fun W => W.cell? ⟨w.heap.size, 0, none⟩ = some (.int .i64 (N : Int)) ∧ W.cell? ⟨w.heap.size, 1, none⟩ = some (.bool hd) ∧ W.cell? ⟨w.heap.size, 2, none⟩ = some (.slice A L.length c))
      (first | exact MK.out _ (Below.refl _ _).drew | exact MK.out _ (kb1 hbv) | exact MK.out _ (kb1 hbp) | exact MK.out _ (below_then' (kb1 hbv) hbp) | exact MK.out _ (below_then' (kb1 hbp) hbv))
      (first | (go_at_call 71; refine (HVAL.out _ (by first | exact (Below.refl _ _).drew | exact kb1 hbp)).mono ?_; rintro e w3 ⟨rfl, hbv⟩) | (go_at_call 68; refine (HPAID.out _ (by first | exact (Below.refl _ _).drew | exact kb1 hbv)).mono ?_; rintro e w3 ⟨rfl, hbp⟩))
    all_goals
      go_wp2
      refine bodyPost_ret (v := .tuple #[.slice (some ⟨bF, 0, none⟩) L.length L.length, .int .i64 ((h + 1) * v - p), .int .i64 0]) ?_ rfl (HFIN.out _ (by first | exact below_then' (kb1 hbv) hbp | exact below_then' (kb1 hbp) hbv))
      simp only [results, Try.results33]
      simp [go_sem, e1, e2, e3]
  · have e1 : (k != 0) = true := by simp [h0]
    go_wp2
    refine bodyPost_ret (v := .tuple #[.slice none 0 0, .int .i64 0, .int .i64 k]) (by simp only [results, Try.results33]; simp [go_sem]) rfl ⟨_, _, by rw [HK.out], HBW.out, fun _ => ⟨rfl, rfl⟩, fun h => absurd (HK.out.symm.trans h) h0⟩

def MostPost (w : World) (nd : Int) (L : List Arc) (s t h : Int) (e : Ending) (w' : World) : Prop :=
  ∃ k, e = .returned (.tuple #[.int .i64 k, .int .i64 (askedE nd L s t h)]) ∧ Below w.heap.size w w' ∧ (askedE nd L s t h ≠ 0 → k = 0) ∧ (askedE nd L s t h = 0 → MostIs L nd.toNat s t (h + 1) k)

set_option maxRecDepth 10000 in
set_option maxHeartbeats 1000000 in
theorem most_calls {w : World} {okA : Nat → Prop} {A : Option Addr} {L : List Arc} (nd : Int) (hd : Bool) (c : Nat) (s t h : Int) (hA : RdA w okA A L) (hL : L.length ≤ 281474976710656) (hc : L.length ≤ c) :
    Calls Try.prog 31 #[.agg #[.int .i64 nd, .bool hd, .slice A L.length c], .int .i64 s, .int .i64 t, .int .i64 h] w (MostPost w nd L s t h) := by
  have HC := Lib.hid (fun w1 (hb : Below w.heap.size w w1) => best_calls nd hd c s t h (hA.fr (Fr.of_below (S := NoB) hb) (fun _ _ h => h)) hL hc)
  clear hA
  go_enter Try.func31, Try.ntmps31
  go_wp2_with fail
  refine (HC.out _ one_new).mono ?_
  rintro e w1 ⟨v, k, rfl, hb1, h1, h2⟩
  have HBW := Lib.hid ((one_new (w := w)).trans (hb1.mono (by simp)))
  have H1 := Lib.hid h1
  have H2 := Lib.hid h2
  obtain ⟨q, hq⟩ : ∃ q, askedE nd L s t h = q := ⟨_, rfl⟩
  rw [hq]
  have HQ := Lib.hid hq
  clear h1 h2 hb1 hq
  go_wp2
  refine bodyPost_ret (v := .tuple #[.int .i64 k, .int .i64 q]) (by simp only [results, Try.results31]; simp [go_sem]) rfl ⟨k, by rw [HQ.out], HBW.out, fun h => (H1.out h).2, fun h => ?_⟩
  obtain ⟨b, f, _, _, _, _, h3, h4⟩ := H2.out h
  exact ⟨_, h3, h4⟩

def worthE (n : Int) (L : List Arc) (s t : Int) (f : List Int) (h : Int) : Int := if askedE n L s t h ≠ 0 then askedE n L s t h else checkE n L s t f
def worthV (n : Int) (L : List Arc) (s t : Int) (f : List Int) (h : Int) : Int := if worthE n L s t f h = 0 then worthOf L.length (frs L) (tos L) (tms L) (fls f) s (h + 1) else 0

set_option maxRecDepth 10000 in
set_option maxHeartbeats 2000000 in
theorem worth_calls {w : World} {okA okF : Nat → Prop} {A F : Option Addr} {L : List Arc} {f : List Int} (nd : Int) (hd : Bool) (c c' : Nat) (s t h : Int) (hA : RdA w okA A L) (hL : L.length ≤ 281474976710656) (hF : RdI w okF F f) (hf : f.length ≤ 281474976710656) :
    Calls Try.prog 27 #[.agg #[.int .i64 nd, .bool hd, .slice A L.length c], .int .i64 s, .int .i64 t, .slice F f.length c', .int .i64 h] w fun e w' => e = .returned (.tuple #[.int .i64 (worthV nd L s t f h), .int .i64 (worthE nd L s t f h)]) ∧ Below w.heap.size w w' := by
  have hc' := fun w1 (hb : Below w.heap.size w w1) => asked_calls nd hd c s t h (hA.fr (Fr.of_below (S := NoB) hb) (fun _ _ h => h)) hL
  have hch := fun w1 (hb : Below w.heap.size w w1) => scheck_calls nd hd c c' s t (hA.fr (Fr.of_below (S := NoB) hb) (fun _ _ h => h)) hL (hF.fr (Fr.of_below (S := NoB) hb) (fun _ _ h => h)) hf
  obtain ⟨k, hk⟩ : ∃ k, askedE nd L s t h = k := ⟨_, rfl⟩
  simp only [hk] at hc'
  have HC := Lib.hid hc'
  have HCH := Lib.hid hch
  have HK := Lib.hid hk
  have HA := Lib.hid hA
  have HF := Lib.hid hF
  clear hc' hch hk hA hF
  have HBX := Lib.hid (Blk.new w [.int .i64 nd, .bool hd, .slice A L.length c] 24)
  go_enter Try.func27, Try.ntmps27
  go_wp2_with fail
  refine (HC.out _ one_new).mono ?_
  rintro e w1 ⟨rfl, hb1⟩
  have hq := HBX.out.below hb1
  have x0 := hq.cell 0 rfl
  have x1 := hq.cell 1 rfl
  have x2 := hq.cell 2 rfl
  have xl := hq.lt
  have HBW := Lib.hid ((one_new (w := w)).trans (hb1.mono (by simp)))
  have HQ := Lib.hid hq
  clear hq hb1
  by_cases h0 : k = 0
  · subst h0
    obtain ⟨q, hq⟩ : ∃ q, checkE nd L s t f = q := ⟨_, rfl⟩
    have hE : worthE nd L s t f h = q := by rw [worthE, if_neg (by rw [HK.out]; simp), hq]
    have HQE := Lib.hid hq
    have HE := Lib.hid hE
    clear hE hq
    go_wp2_with fail
    refine (HCH.out _ HBW.out).mono ?_
    rintro e w2 ⟨rfl, hb2⟩
    have hq2 := HQ.out.below hb2
    have x0 := hq2.cell 0 rfl
    have x1 := hq2.cell 1 rfl
    have x2 := hq2.cell 2 rfl
    have xl := hq2.lt
    have HBW2 := Lib.hid (below_then' HBW.out hb2)
    rw [HQE.out]
    clear hq2 hb2
    by_cases hq0 : q = 0
    · subst hq0
      obtain ⟨hh0, hh1⟩ : 0 ≤ h ∧ h ≤ 1024 := by obtain ⟨_, _, _, _, _, _, a, b⟩ := askedE_zero HK.out; exact ⟨a, b⟩
      obtain ⟨N, rfl, hR, hs, ht, hst, hfl⟩ := checkE_zero HQE.out
      obtain ⟨⟨v0, v1⟩, p0, p1⟩ := worth_bounds hR hfl.flow s
      have hfb : ∀ i, i < L.length → 0 ≤ fls f i ∧ fls f i ≤ 1048576 := fun i hi => by have := hfl.flow i hi; have := hR.arcs.cap i hi; omega
      have hcv : checkV (N : Int) L s t f = bal L.length (frs L) (tos L) (fls f) s := by rw [checkV, if_pos HQE.out]
      obtain ⟨v, hv⟩ : ∃ v, bal L.length (frs L) (tos L) (fls f) s = v := ⟨_, rfl⟩
      obtain ⟨p, hp⟩ : ∃ p, paidF L f = p := ⟨_, rfl⟩
      rw [hcv, hv]
      have HPA := Lib.hid (show Calls Try.prog 68 #[.agg #[.int .i64 (N : Int), .bool hd, .slice A L.length c], .slice F f.length c'] w2 fun e w' => e = .returned (.int .i64 p) ∧ Below w2.heap.size w2 w' by
        have h := paid_calls (N : Int) hd c c' (HA.out.fr (Fr.of_below (S := NoB) HBW2.out) (fun _ _ h => h)) hR.len (HF.out.fr (Fr.of_below (S := NoB) HBW2.out) (fun _ _ h => h)) hfl.len hR.arcs.tm hfb
        rwa [hp] at h)
      rw [hv] at v0 v1
      rw [hp] at p0 p1
      have hm := mul_wrap hh0 hh1 ⟨v0, v1⟩
      have e1 : IntKind.i64.wrap (h + 1) = h + 1 := IntWalk.i64_in _ (by omega)
      obtain ⟨m, hmm⟩ : ∃ m, (h + 1) * v = m := ⟨_, rfl⟩
      rw [hmm] at hm
      have e2 : IntKind.i64.wrap ((h + 1) * v) = (h + 1) * v := by rw [hmm]; exact IntWalk.i64_in _ (by omega)
      have e3 : IntKind.i64.wrap ((h + 1) * v - p) = (h + 1) * v - p := by rw [hmm]; exact IntWalk.i64_in _ (by omega)
      have hw : worthV (N : Int) L s t f h = (h + 1) * v - p := by
        rw [worthV, if_pos HE.out, worthOf, hv, ← hp]; rfl
      have HW := Lib.hid hw
      clear hmm hm hw hp hv hcv hfb hR hfl hs ht hst
      go_wp2_with fail
      refine HPA.out.mono ?_
      rintro e w3 ⟨rfl, hb3⟩
      go_wp2
      refine bodyPost_ret (v := .tuple #[.int .i64 ((h + 1) * v - p), .int .i64 0]) (by simp only [results, Try.results27]; simp [go_sem, e1, e2, e3]) rfl ⟨by rw [HW.out, HE.out], below_then' HBW2.out hb3⟩
    · have e1 : (q != 0) = true := by simp [hq0]
      go_wp2
      refine bodyPost_ret (v := .tuple #[.int .i64 0, .int .i64 q]) (by simp only [results, Try.results27]; simp [go_sem]) rfl ⟨by rw [worthV, HE.out, if_neg hq0], HBW2.out⟩
  · have e1 : (k != 0) = true := by simp [h0]
    have hE : worthE nd L s t f h = k := by rw [worthE, if_pos (by rw [HK.out]; exact h0), HK.out]
    have HE := Lib.hid hE
    clear hE
    go_wp2
    refine bodyPost_ret (v := .tuple #[.int .i64 0, .int .i64 k]) (by simp only [results, Try.results27]; simp [go_sem]) rfl ⟨by rw [worthV, HE.out, if_neg h0], HBW.out⟩
end Go.Proofs.Ythbffhlfdjpfaaa
