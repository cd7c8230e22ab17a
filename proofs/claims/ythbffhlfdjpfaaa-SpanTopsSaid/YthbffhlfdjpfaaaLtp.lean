/- No flow is worth more than the most, and none at all is worth 0; no condition. -/
import Derived.Test.YthbffhlfdjpfaaaR5
import Derived.Test.YthbffhlfdjpfaaaW24
import Derived.Test.YthbffhlfdjpfaaaOp
import Derived.Test.YthbffhlfdjpfaaaIni
namespace Go.Proofs.Ythbffhlfdjpfaaa
set_option linter.unusedVariables false
set_option linter.unusedSimpArgs false
open Go.ChangeShapes Go.WideShapes Go.ChangeAt Go.RowKit Go.Deep Go.Joins

theorem worthE_zero {n : Int} {L : List Arc} {s t : Int} {f : List Int} {h : Int} (e : worthE n L s t f h = 0) : askedE n L s t h = 0 ∧ checkE n L s t f = 0 := by
  unfold worthE at e
  by_cases h1 : askedE n L s t h = 0
  · rw [if_neg (by simpa using h1)] at e; exact ⟨h1, e⟩
  · rw [if_pos h1] at e; exact absurd e h1

/-- of any network, flow and horizon: what the law's last test asks -/
theorem tops_law {nd : Int} {L : List Arc} {s t h m : Int} {f : List Int} (hm : askedE nd L s t h = 0 → MostIs L nd.toNat s t (h + 1) m) :
    (askedE nd L s t h = 0 → 0 ≤ m) ∧ (worthE nd L s t f h = 0 → askedE nd L s t h = 0 ∧ worthV nd L s t f h ≤ m) := by
  constructor
  · intro e
    have h1 := hm e
    obtain ⟨N, rfl, hR, hs, ht, hst, _, _⟩ := askedE_zero e
    rw [Int.toNat_natCast] at h1
    exact h1.nonneg hR.arcs hs ht hst
  · intro e
    obtain ⟨e1, e2⟩ := worthE_zero e
    refine ⟨e1, ?_⟩
    obtain ⟨g, h1, h2⟩ := hm e1
    obtain ⟨N, rfl, hR, hs, ht, hst, hf⟩ := checkE_zero e2
    rw [Int.toNat_natCast] at h1
    rw [worthV, if_pos e, h2]
    exact h1.most hR.arcs.ends hs ht hst hf.flow hf.bal

set_option maxRecDepth 10000 in
set_option maxHeartbeats 2000000 in
theorem spanTops_calls {w : World} {okA okF : Nat → Prop} {A F : Option Addr} {L : List Arc} {f : List Int} (nd : Int) (hd : Bool) (c c' : Nat) (s t h : Int) (hA : RdA w okA A L) (hLc : L.length ≤ c) (hL : L.length ≤ 281474976710656) (hF : RdI w okF F f) (hf : f.length ≤ 281474976710656) :
    Calls Try.prog 6 #[.agg #[.int .i64 nd, .bool hd, .slice A L.length c], .int .i64 s, .int .i64 t, .slice F f.length c', .int .i64 h] w fun e w' => e = .returned (.bool true) ∧ Below w.heap.size w w' := by
  have hfew := fun w1 => few_calls (w := w1) (A := A) nd hd L.length c 8 20 hLc hL (fun h0 => by obtain ⟨b, off, e, _⟩ := hA 0 h0; exact ⟨b, off, e⟩) (by omega)
  have hlen : (if 20 < L.length ∧ L.length ≤ 200 then 20 else L.length) = (fewL L 20).length := by
    unfold fewL
    split
    · simp; omega
    · rfl
  simp only [hlen] at hfew
  obtain ⟨M, hM⟩ : ∃ M, fewL L 20 = M := ⟨_, rfl⟩
  obtain ⟨n, hn⟩ : ∃ n, fewN nd 8 = n := ⟨_, rfl⟩
  have hMA : RdA w okA A M := hM ▸ hA.few 20
  have hMl : M.length ≤ L.length := hM ▸ fewL_len L 20
  simp only [hM, hn] at hfew
  have h1 := fun w1 (hb : Below w.heap.size w w1) => rworth_calls n hd c c' s t h (hMA.fr (Fr.of_below (S := NoB) hb) (fun _ _ h => h)) (by omega) (hF.fr (Fr.of_below (S := NoB) hb) (fun _ _ h => h)) hf
  have h2 := fun w1 (hb : Below w.heap.size w w1) => most_calls n hd c s t h (hMA.fr (Fr.of_below (S := NoB) hb) (fun _ _ h => h)) (by omega) (by omega)
  obtain ⟨k, hk⟩ : ∃ k, worthV n M s t f h = k := ⟨_, rfl⟩
  obtain ⟨q, hq⟩ : ∃ q, worthE n M s t f h = q := ⟨_, rfl⟩
  simp only [hk, hq] at h1
  have HK := Lib.hid hk
  have HQ := Lib.hid hq
  have HFEW := Lib.hid hfew
  have H1 := Lib.hid h1
  have H2 := Lib.hid h2
  have HBX := Lib.hid (Blk.new w [.int .i64 nd, .bool hd, .slice A L.length c] 24)
  clear h1 h2 hk hq hA hF hfew hlen hM hn hMA
  go_enter Try.func6, Try.ntmps6
  go_wp2_with fail
  refine (awake12_calls _).mono ?_
  rintro e w1 ⟨rfl, hb1⟩
  have hq := HBX.out.below hb1
  have x0 := hq.cell 0 rfl
  have x1 := hq.cell 1 rfl
  have x2 := hq.cell 2 rfl
  have xl := hq.lt
  have HQ1 := Lib.hid hq
  have HB1 := Lib.hid ((one_new (w := w)).trans (hb1.mono (by simp)))
  clear hb1 hq
  go_wp2_with fail
  refine (HFEW.out _).mono ?_
  rintro e w2 ⟨rfl, hb2⟩
  have hq2 := HQ1.out.below hb2
  have HB2 := Lib.hid (below_then' HB1.out hb2)
  have f0 := hq2.free 0
  have f1 := hq2.free 1
  have f2 := hq2.free 2
  have x0 := hq2.cell 0 rfl
  have x1 := hq2.cell 1 rfl
  have x2 := hq2.cell 2 rfl
  have xl := hq2.lt
  have HQ3 := Lib.hid (((hq2.set 0 (.int .i64 n)).set 1 (.bool hd)).set 2 (.slice A M.length c))
  have HB3 := Lib.hid (((HB2.out.setCell (p := ⟨w.heap.size, 0, none⟩) (Nat.le_refl _) (.int .i64 n)).setCell (p := ⟨w.heap.size, 1, none⟩) (Nat.le_refl _) (.bool hd)).setCell (p := ⟨w.heap.size, 2, none⟩) (Nat.le_refl _) (.slice A M.length c))
  clear hb2 hq2
  have x0 := HQ3.out.cell 0 rfl
  have x1 := HQ3.out.cell 1 rfl
  have x2 := HQ3.out.cell 2 rfl
  have xl' := HQ3.out.lt
  go_wp2_with fail
  refine (H1.out _ HB3.out).mono ?_
  rintro e w3 ⟨rfl, hb3⟩
  have hq3 := HQ3.out.below hb3
  have HB4 := Lib.hid (below_then' HB3.out hb3)
  have x0 := hq3.cell 0 rfl
  have x1 := hq3.cell 1 rfl
  have x2 := hq3.cell 2 rfl
  have xl := hq3.lt
  clear hq3 hb3
  go_wp2_with fail
  refine (H2.out _ HB4.out).mono ?_
  rintro e w4 ⟨m, rfl, hb4, _, hmm⟩
  have HB5 := Lib.hid (below_then' HB4.out hb4)
  have HT := Lib.hid (tops_law (f := f) hmm)
  obtain ⟨g, hg⟩ : ∃ g, askedE n M s t h = g := ⟨_, rfl⟩
  rw [hg]
  have HG := Lib.hid hg
  clear hb4 hmm hg
  by_cases g0 : g = 0
  · have hm0 : 0 ≤ m := HT.out.1 (HG.out.trans g0)
    subst g0
    by_cases q0 : q = 0
    · obtain ⟨_, hkm⟩ := HT.out.2 (HQ.out.trans q0)
      rw [HK.out] at hkm
      subst q0
      go_wp2
      go_ret
      exact ⟨rfl, HB5.out⟩
    · have e1 : (q != 0) = true := by simp [q0]
      go_wp2
      go_ret
      exact ⟨rfl, HB5.out⟩
  · have q0 : ¬ q = 0 := fun h0 => g0 (HG.out.symm.trans (HT.out.2 (HQ.out.trans h0)).1)
    have e1 : (q != 0) = true := by simp [q0]
    have e2 : (g != 0) = true := by simp [g0]
    go_wp2
    go_ret
    exact ⟨rfl, HB5.out⟩

set_option maxRecDepth 100000 in
theorem spanTops_lifted (os : Os) (started : os.Started) (H : Type) (enc : TypeId × Value → H) :
    ReturnsInHanded {} Try.checked os 6 .any (Rows.spanTopsSpec.pre6 enc Try.prog Try.f6 Rows.spanTopsRow.domain false) (Rows.spanTopsSpec.post enc Try.prog Try.f6 false true false false) := by
  refine returnsInHanded_of_change_sized (C := Try.checked) tryOwn started (by kernel_rfl) Try.func6
    (ChangeSpec.witness6 (enc := enc) (C := Try.checked) false ⟨#[], #[.agg #[.int .i64 0, .bool false, .slice none 0 0], .int .i64 0, .int .i64 0, .slice none 0 0, .int .i64 0], []⟩ 8 (by kernel_rfl) (by kernel_rfl) (by kernel_rfl) (by kernel_rfl)) ?_
  intro W base args ds gs before hval0 hW hcnd hsz0 _
  have hval : ∀ (j : Nat) t v, Try.f6.params[j]? = some t → args[j]? = some v → Value.okWide Try.prog W .any base t v := hval0
  have hW' := hW
  obtain ⟨p, q, hA0, hV, rfl, hfz, hnd⟩ := hW
  have hA : DataW.TrodAll enc Try.prog W 0 (fun _ => true) true Try.f6.params.toList args.toList ds p := hA0
  have hsz : (DataW.weightsEach Try.prog (Try.f6.params.toList ++ Rows.spanTopsSpec.plain.varTypes Try.prog) (ds ++ gs)).all (· ≤ reachBytes) = true := hsz0
  have hkeep := hA
  rw [Try.params6] at hA hval hsz hkeep
  obtain ⟨v0, vs0, d0, ds0, p0, q0, hargs, rfl, rfl, h0, r0⟩ := trodAll_cons hA
  obtain ⟨v1, vs1, d1, ds1, p1, q1, rfl, rfl, rfl, h1, r1⟩ := trodAll_cons r0
  obtain ⟨v2, vs2, d2, ds2, p2, q2, rfl, rfl, rfl, h2, r2⟩ := trodAll_cons r1
  obtain ⟨v3, vs3, d3, ds3, p3, q3, rfl, rfl, rfl, h3, r3⟩ := trodAll_cons r2
  obtain ⟨v4, vs4, d4, ds4, p4, q4, rfl, rfl, rfl, h4, r4⟩ := trodAll_cons r3
  obtain ⟨rfl, rfl, rfl⟩ := trodAll_nil r4
  obtain rfl : args = #[v0, v1, v2, v3, v4] := by cases args; simp_all
  obtain ⟨rfl, rfl⟩ := trodVars_none hV
  obtain ⟨nd, hd, A, L, c, rfl, hRA, hLc, hL⟩ := open_net (j := 0) (hval 0 24 v0 rfl rfl) h0 hsz rfl rfl
  obtain ⟨s, rfl, _, _, _⟩ := open_int Try.underlying3 (hval 1 3 v1 rfl rfl) h1
  obtain ⟨t, rfl, _, _, _⟩ := open_int Try.underlying3 (hval 2 3 v2 rfl rfl) h2
  obtain ⟨F, f, c', rfl, hRF, hfc, hf⟩ := open_flow (j := 3) (hval 3 25 v3 rfl rfl) h3 hsz rfl rfl
  obtain ⟨hz, rfl, _, _, _⟩ := open_int Try.underlying3 (hval 4 3 v4 rfl rfl) h4
  clear hA0 hval0
  refine (spanTops_calls nd hd c c' s t hz hRA hLc hL hRF hf).mono fun e W' ⟨he, bel⟩ => ?_
  subst he
  exact ⟨_, rfl, _, _, _, [], _, [], hW', trodAll_mk1 (shut_bool Try.underlying4 _), kept_all bel _ _ _ _ (by decide +kernel) hkeep, rfl, bel.frame _, fun h => by cases h⟩

theorem spanTops_facts : joinedFacts Try.prog 6 Try.f6 Rows.spanTopsSpec Rows.spanTopsRow = true := by
  unfold joinedFacts
  rw [may_enter, lifts_final, make_cut]
  kernel_rfl
theorem spanTops_holds : Rows.SpanTopsSaid :=
  OpenClaim.holds_of_wide 6 Try.f6 rfl rfl rfl rfl rfl rfl rfl ⟨rfl, rfl, rfl, rfl, rfl⟩ rfl rfl rfl rfl rfl (by kernel_rfl) Try.func6 spanTops_facts
    (of_decide_eq_true (by kernel_rfl)) (by unfold Func.isWrapper; rw [if_neg (of_decide_eq_false (by kernel_rfl))]; exact ⟨rfl, rfl⟩)
    (fun os started H enc _ => spanTops_lifted os started H enc)
#print axioms spanTops_holds
end Go.Proofs.Ythbffhlfdjpfaaa
