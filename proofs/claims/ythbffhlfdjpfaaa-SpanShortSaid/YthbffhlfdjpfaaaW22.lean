/- Whether a flow is one from a source to a sink, and its value. -/
import Derived.Test.YthbffhlfdjpfaaaW21
namespace Go.Proofs.Ythbffhlfdjpfaaa
set_option linter.unusedVariables false
set_option linter.unusedSimpArgs false
open Go.RowKit

/-- are all nodes but the ends balanced? -/
def evenB (L : List Arc) (f : List Int) (N : Nat) (s t : Int) : Bool := (List.range N).all fun v : Nat => decide (bal L.length (frs L) (tos L) (fls f) (v : Int) = 0) || decide ((v : Int) = s) || decide ((v : Int) = t)
theorem evenB_iff {L : List Arc} {f : List Int} {N : Nat} {s t : Int} : evenB L f N s t = true ↔ Balanced L.length N (frs L) (tos L) s t (fls f) := by
  unfold evenB Balanced
  rw [List.all_eq_true]
  constructor
  · intro h v hv h1 h2
    have h3 := h v.toNat (by simp; have := hv.1; have := hv.2; omega)
    rw [show ((v.toNat : Nat) : Int) = v by have := hv.1; omega] at h3
    simpa [h1, h2] using h3
  · intro h v hv
    have hv' : v < N := by simpa using hv
    by_cases h1 : (v : Int) = s
    · simp [h1]
    · by_cases h2 : (v : Int) = t
      · simp [h2]
      · simp [h (v : Int) ⟨by omega, by omega⟩ h1 h2]
def checkE (n : Int) (L : List Arc) (s t : Int) (f : List Int) : Int := if endsE n L s t ≠ 0 then endsE n L s t else if flowE n L f ≠ 0 then flowE n L f else if evenB L f n.toNat s t = false then 71 else 0
def checkV (n : Int) (L : List Arc) (s t : Int) (f : List Int) : Int := if checkE n L s t f = 0 then bal L.length (frs L) (tos L) (fls f) s else 0
/-- a flow from s to t -/
structure Flw (L : List Arc) (N : Nat) (s t : Int) (f : List Int) : Prop where
  len : f.length = L.length
  flow : IsFlow L.length (caps L) (fls f)
  bal : Balanced L.length N (frs L) (tos L) s t (fls f)
theorem checkE_zero {n : Int} {L : List Arc} {s t : Int} {f : List Int} (h : checkE n L s t f = 0) : ∃ N : Nat, n = (N : Int) ∧ Right L N ∧ Nd N s ∧ Nd N t ∧ s ≠ t ∧ Flw L N s t f := by
  unfold checkE at h
  by_cases h1 : endsE n L s t = 0
  · rw [if_neg (by simpa using h1)] at h
    by_cases h2 : flowE n L f = 0
    · rw [if_neg (by simpa using h2)] at h
      by_cases h3 : evenB L f n.toNat s t = false
      · rw [if_pos h3] at h; omega
      · obtain ⟨N, rfl, a, b, c, d⟩ := endsE_zero h1
        obtain ⟨_, e, g⟩ := flowE_zero h2
        have h4 : evenB L f N s t = true := by simpa using h3
        exact ⟨N, rfl, a, b, c, d, e, g, evenB_iff.1 h4⟩
    · rw [if_pos h2] at h; exact absurd h h2
  · rw [if_pos h1] at h; exact absurd h h1
theorem checkE_ok {L : List Arc} {N : Nat} {s t : Int} {f : List Int} (hR : Right L N) (hs : Nd N s) (ht : Nd N t) (hst : s ≠ t) (hf : Flw L N s t f) : checkE (N : Int) L s t f = 0 := by
  unfold checkE
  rw [if_neg (by simpa using hR.endsE hs ht hst), if_neg (by simpa using flowE_ok hR.netE hf.len hf.flow), if_neg]
  rw [Int.toNat_natCast, evenB_iff.2 hf.bal]
  simp

set_option maxRecDepth 10000 in
set_option maxHeartbeats 2000000 in
theorem scheck_calls {w : World} {okA okF : Nat → Prop} {A F : Option Addr} {L : List Arc} {f : List Int} (nd : Int) (hd : Bool) (c c' : Nat) (s t : Int) (hA : RdA w okA A L) (hL : L.length ≤ 281474976710656) (hF : RdI w okF F f) (hf : f.length ≤ 281474976710656) :
    Calls Try.prog 67 #[.agg #[.int .i64 nd, .bool hd, .slice A L.length c], .int .i64 s, .int .i64 t, .slice F f.length c'] w fun e w' => e = .returned (.tuple #[.int .i64 (checkV nd L s t f), .int .i64 (checkE nd L s t f)]) ∧ Below w.heap.size w w' := by
  have hc := fun w1 (hb : Below w.heap.size w w1) => ends_calls nd hd c s t (hA.fr (Fr.of_below (S := NoB) hb) (fun _ _ h => h)) hL
  obtain ⟨k, hk⟩ : ∃ k, endsE nd L s t = k := ⟨_, rfl⟩
  simp only [hk] at hc
  have hb := fun w1 (hb : Below w.heap.size w w1) => balance_calls nd hd c c' (hA.fr (Fr.of_below (S := NoB) hb) (fun _ _ h => h)) hL (hF.fr (Fr.of_below (S := NoB) hb) (fun _ _ h => h)) hf
  have HC := Lib.hid hc
  have HBA := Lib.hid hb
  have HK := Lib.hid hk
  clear hc hk hb hA hF
  have HBX := Lib.hid (Blk.new w [.int .i64 nd, .bool hd, .slice A L.length c] 24)
  go_enter Try.func67, Try.ntmps67
  go_wp2_with fail
  refine (HC.out _ one_new).mono ?_
  rintro e w1 ⟨rfl, hb1⟩
  have hq := HBX.out.below hb1
  have x0 := hq.cell 0 rfl
  have x1 := hq.cell 1 rfl
  have x2 := hq.cell 2 rfl
  have xl := hq.lt
  have HBW := Lib.hid ((one_new (w := w)).trans (hb1.mono (by simp)))
  clear hq hb1
  by_cases h0 : k = 0
  · subst h0
    obtain ⟨N, rfl, hR, hs, ht, hst⟩ := endsE_zero HK.out
    obtain ⟨q, hq⟩ : ∃ q, flowE (N : Int) L f = q := ⟨_, rfl⟩
    have HQ := Lib.hid hq
    have HR := Lib.hid hR
    have HS := Lib.hid hs
    have HT := Lib.hid ht
    have HST := Lib.hid hst
    have hN := hR.n1
    clear hq hR hs ht hst
    go_wp2_with fail
    refine (HBA.out _ HBW.out).mono ?_
    rintro e w2 ⟨v, rfl, hb2, hv1, hv2⟩
    have HBW2 := Lib.hid (below_then' HBW.out hb2)
    rw [HQ.out]
    clear hb2 x0 x1 x2 xl
    by_cases hq0 : q = 0
    · subst hq0
      obtain ⟨b, rfl, hB⟩ := hv2 HQ.out
      rw [Int.toNat_natCast] at hB ⊢
      have HB := Lib.hid hB
      have bl := hB.lt
      clear hv1 hv2 hB
      go_wp2
      go_loop [31] (fun i => ∃ j : Nat, j ≤ N ∧ i = .int .i64 j ∧ Hid (∀ v : Nat, v < j → (v : Int) ≠ s → (v : Int) ≠ t → bal L.length (frs L) (tos L) (fls f) (v : Int) = 0)) (fun i => N - (intOf i).toNat)
      case atStart => exact ⟨0, Nat.zero_le _, rfl, fun v hv => absurd hv (by omega)⟩
      case round =>
        obtain ⟨j, hj, rfl, hall⟩ := hrel
        by_cases hlt : j < N
        · have cj : w2.cell? ⟨b, j, none⟩ = some (.int .i64 (bal L.length (frs L) (tos L) (fls f) (j : Int))) := by
            have h := HB.out.cell j (v := .int .i64 ((balL L f N L.length).getD j 0)) (by simp [encI, List.getElem?_eq_getElem (show j < (balL L f N L.length).length by rw [balL_len]; exact hlt), List.getD_eq_getElem?_getD])
            rwa [balL_get L f L.length hlt] at h
          obtain ⟨x, hx⟩ : ∃ x, bal L.length (frs L) (tos L) (fls f) (j : Int) = x := ⟨_, rfl⟩
          rw [hx] at cj
          have HX := Lib.hid hx
          clear hx
          have hnext : x = 0 ∨ (j : Int) = s ∨ (j : Int) = t → ∀ v : Nat, v < j + 1 → (v : Int) ≠ s → (v : Int) ≠ t → bal L.length (frs L) (tos L) (fls f) (v : Int) = 0 := by
            intro h v hv h1 h2
            by_cases hvj : v = j
            · subst hvj
              rcases h with h | h | h
              · rw [HX.out, h]
              · exact absurd h h1
              · exact absurd h h2
            · exact hall.out v (by omega) h1 h2
          have HNX := Lib.hid hnext
          clear hnext
          by_cases q1 : x = 0
          · have e1 : (x != 0) = false := by simp [q1]
            have HN := Lib.hid (HNX.out (.inl q1))
            clear q1
            go_wp2
            go_round
            case rel => exact ⟨j + 1, by omega, by go_num, HN⟩
            case measure => simp [intOf]; omega
          · have e1 : (x != 0) = true := by simp [q1]
            by_cases q2 : (j : Int) = s
            · have e2 : ((j : Int) != s) = false := by simp [q2]
              have HN := Lib.hid (HNX.out (.inr (.inl q2)))
              clear q2
              go_wp2
              go_round
              case rel => exact ⟨j + 1, by omega, by go_num, HN⟩
              case measure => simp [intOf]; omega
            · have e2 : ((j : Int) != s) = true := by simp [q2]
              by_cases q3 : (j : Int) = t
              · have e3 : ((j : Int) != t) = false := by simp [q3]
                have HN := Lib.hid (HNX.out (.inr (.inr q3)))
                clear q3
                go_wp2
                go_round
                case rel => exact ⟨j + 1, by omega, by go_num, HN⟩
                case measure => simp [intOf]; omega
              · have e3 : ((j : Int) != t) = true := by simp [q3]
                have hE : checkE (N : Int) L s t f = 71 := by
                  unfold checkE
                  rw [if_neg (by rw [HK.out]; simp), if_neg (by rw [HQ.out]; simp), if_pos]
                  cases hev : evenB L f (N : Int).toNat s t
                  · rfl
                  · rw [Int.toNat_natCast] at hev
                    have := evenB_iff.1 hev (j : Int) ⟨by omega, by omega⟩ q2 q3
                    rw [HX.out] at this
                    exact absurd this q1
                have HE := Lib.hid hE
                clear hE
                go_wp2
                go_ret2
                refine ⟨?_, HBW2.out⟩
                rw [checkV, HE.out]
                rfl
        · have e : j = N := by omega
          subst e
          obtain ⟨sn, hsn⟩ := Int.eq_ofNat_of_zero_le HS.out.1
          have hsN : sn < j := by have := HS.out.2; omega
          have cs : w2.cell? ⟨b, sn, none⟩ = some (.int .i64 (bal L.length (frs L) (tos L) (fls f) (sn : Int))) := by
            have h := HB.out.cell sn (v := .int .i64 ((balL L f j L.length).getD sn 0)) (by simp [encI, List.getElem?_eq_getElem (show sn < (balL L f j L.length).length by rw [balL_len]; exact hsN), List.getD_eq_getElem?_getD])
            rwa [balL_get L f L.length hsN] at h
          have hE : checkE (j : Int) L s t f = 0 := by
            unfold checkE
            rw [if_neg (by rw [HK.out]; simp), if_neg (by rw [HQ.out]; simp), if_neg]
            rw [Int.toNat_natCast, evenB_iff.2]
            · simp
            · intro v hv h1 h2
              obtain ⟨vn, rfl⟩ := Int.eq_ofNat_of_zero_le hv.1
              exact hall.out vn (by have := hv.2; omega) h1 h2
          have HE := Lib.hid hE
          have HSN := Lib.hid hsn
          clear hE
          subst hsn
          go_wp2
          go_ret2
          refine ⟨?_, HBW2.out⟩
          rw [checkV, HE.out]
          rfl
    · have e1 : (q != 0) = true := by simp [hq0]
      have hE : checkE (N : Int) L s t f = q := by
        unfold checkE
        rw [if_neg (by rw [HK.out]; simp), if_pos (by rw [HQ.out]; exact hq0), HQ.out]
      have HE := Lib.hid hE
      have hv := hv1 (by rw [HQ.out]; exact hq0)
      subst hv
      clear hE hv1 hv2
      go_wp2
      go_ret2
      refine ⟨?_, HBW2.out⟩
      rw [checkV, HE.out, if_neg hq0]
      rfl
  · have e1 : (k != 0) = true := by simp [h0]
    have hE : checkE nd L s t f = k := by
      unfold checkE
      rw [if_pos (by rw [HK.out]; exact h0), HK.out]
    have HE := Lib.hid hE
    clear hE
    go_wp2
    go_ret2
    refine ⟨?_, HBW.out⟩
    rw [checkV, HE.out, if_neg h0]
    rfl
end Go.Proofs.Ythbffhlfdjpfaaa
