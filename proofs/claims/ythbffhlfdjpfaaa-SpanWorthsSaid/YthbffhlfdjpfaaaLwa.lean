/- What any flow is worth within any horizon is what the document says, or it is refused; no condition. -/
import Derived.Test.YthbffhlfdjpfaaaR4
import Derived.Test.YthbffhlfdjpfaaaW24
import Derived.Test.YthbffhlfdjpfaaaOp
import Derived.Test.YthbffhlfdjpfaaaIni
namespace Go.Proofs.Ythbffhlfdjpfaaa
open Go.ChangeShapes Go.WideShapes Go.ChangeAt Go.RowKit Go.Deep Go.Joins

set_option maxRecDepth 10000 in
set_option maxHeartbeats 1000000 in
theorem spanWorths_calls {w : World} {okA okF : Nat → Prop} {A F : Option Addr} {L : List Arc} {f : List Int} (nd : Int) (hd : Bool) (c c' : Nat) (s t h : Int) (hA : RdA w okA A L) (hL : L.length ≤ 281474976710656) (hF : RdI w okF F f) (hf : f.length ≤ 281474976710656) :
    Calls Try.prog 3 #[.agg #[.int .i64 nd, .bool hd, .slice A L.length c], .int .i64 s, .int .i64 t, .slice F f.length c', .int .i64 h] w fun e w' => e = .returned (.bool true) ∧ Below w.heap.size w w' := by
  have h1 := fun w1 (hb : Below w.heap.size w w1) => worth_calls nd hd c c' s t h (hA.fr (Fr.of_below (S := NoB) hb) (fun _ _ h => h)) hL (hF.fr (Fr.of_below (S := NoB) hb) (fun _ _ h => h)) hf
  have h2 := fun w1 (hb : Below w.heap.size w w1) => rworth_calls nd hd c c' s t h (hA.fr (Fr.of_below (S := NoB) hb) (fun _ _ h => h)) hL (hF.fr (Fr.of_below (S := NoB) hb) (fun _ _ h => h)) hf
  obtain ⟨k, hk⟩ : ∃ k, worthV nd L s t f h = k := ⟨_, rfl⟩
  obtain ⟨q, hq⟩ : ∃ q, worthE nd L s t f h = q := ⟨_, rfl⟩
  simp only [hk, hq] at h1 h2
  have H1 := Lib.hid h1
  have H2 := Lib.hid h2
  have HBX := Lib.hid (Blk.new w [.int .i64 nd, .bool hd, .slice A L.length c] 24)
  clear h1 h2 hk hq hA hF
  go_enter Try.func3, Try.ntmps3
  go_wp2_with fail
  refine (H1.out _ one_new).mono ?_
  rintro e w1 ⟨rfl, hb1⟩
  have hq := HBX.out.below hb1
  have x0 := hq.cell 0 rfl
  have x1 := hq.cell 1 rfl
  have x2 := hq.cell 2 rfl
  have xl := hq.lt
  have HBW := Lib.hid ((one_new (w := w)).trans (hb1.mono (by simp)))
  clear hb1 hq
  go_wp2_with fail
  refine (H2.out _ HBW.out).mono ?_
  rintro e w2 ⟨rfl, hb2⟩
  have HBW2 := Lib.hid (below_then' HBW.out hb2)
  clear hb2
  go_wp2_with fail
  refine (awake12_calls _).mono ?_
  rintro e w3 ⟨rfl, hb3⟩
  have HBW3 := Lib.hid (below_then' HBW2.out hb3)
  clear hb3
  go_wp2
  go_ret
  exact ⟨rfl, HBW3.out⟩

set_option maxRecDepth 100000 in
theorem spanWorths_lifted (os : Os) (started : os.Started) (H : Type) (enc : TypeId × Value → H) :
    ReturnsInHanded {} Try.checked os 3 .any (Rows.spanWorthsSpec.pre6 enc Try.prog Try.f3 Rows.spanWorthsRow.domain false) (Rows.spanWorthsSpec.post enc Try.prog Try.f3 false true false false) := by
  refine returnsInHanded_of_change_sized (C := Try.checked) tryOwn started (by kernel_rfl) Try.func3
    (ChangeSpec.witness6 (enc := enc) (C := Try.checked) false ⟨#[], #[.agg #[.int .i64 0, .bool false, .slice none 0 0], .int .i64 0, .int .i64 0, .slice none 0 0, .int .i64 0], []⟩ 8 (by kernel_rfl) (by kernel_rfl) (by kernel_rfl) (by kernel_rfl)) ?_
  intro W base args ds gs before hval0 hW hcnd hsz0 _
  have hval : ∀ (j : Nat) t v, Try.f3.params[j]? = some t → args[j]? = some v → Value.okWide Try.prog W .any base t v := hval0
  have hW' := hW
  obtain ⟨p, q, hA0, hV, rfl, hfz, hnd⟩ := hW
  have hA : DataW.TrodAll enc Try.prog W 0 (fun _ => true) true Try.f3.params.toList args.toList ds p := hA0
  have hsz : (DataW.weightsEach Try.prog (Try.f3.params.toList ++ Rows.spanWorthsSpec.plain.varTypes Try.prog) (ds ++ gs)).all (· ≤ reachBytes) = true := hsz0
  have hkeep := hA
  rw [Try.params3] at hA hval hsz hkeep
  obtain ⟨v0, vs0, d0, ds0, p0, q0, hargs, rfl, rfl, h0, r0⟩ := trodAll_cons hA
  obtain ⟨v1, vs1, d1, ds1, p1, q1, rfl, rfl, rfl, h1, r1⟩ := trodAll_cons r0
  obtain ⟨v2, vs2, d2, ds2, p2, q2, rfl, rfl, rfl, h2, r2⟩ := trodAll_cons r1
  obtain ⟨v3, vs3, d3, ds3, p3, q3, rfl, rfl, rfl, h3, r3⟩ := trodAll_cons r2
  obtain ⟨v4, vs4, d4, ds4, p4, q4, rfl, rfl, rfl, h4, r4⟩ := trodAll_cons r3
  obtain ⟨rfl, rfl, rfl⟩ := trodAll_nil r4
  obtain rfl : args = #[v0, v1, v2, v3, v4] := by cases args; simp_all
  obtain ⟨rfl, rfl⟩ := trodVars_none hV
  obtain ⟨nd, hd, A, L, c, rfl, hRA, hLc, hL⟩ := open_net (j := 0) (hval 0 24 v0 rfl rfl) h0 hsz rfl rfl
  obtain ⟨s, rfl, _, _, _⟩ := open_int Try.underlying3 (hval 1 3 v1 rfl rfl) h1
  obtain ⟨t, rfl, _, _, _⟩ := open_int Try.underlying3 (hval 2 3 v2 rfl rfl) h2
  obtain ⟨F, f, c', rfl, hRF, hfc, hf⟩ := open_flow (j := 3) (hval 3 25 v3 rfl rfl) h3 hsz rfl rfl
  obtain ⟨hz, rfl, _, _, _⟩ := open_int Try.underlying3 (hval 4 3 v4 rfl rfl) h4
  clear hA0 hval0
  refine (spanWorths_calls nd hd c c' s t hz hRA hL hRF hf).mono fun e W' ⟨he, bel⟩ => ?_
  subst he
  exact ⟨_, rfl, _, _, _, [], _, [], hW', trodAll_mk1 (shut_bool Try.underlying4 _), kept_all bel _ _ _ _ (by decide +kernel) hkeep, rfl, bel.frame _, fun h => by cases h⟩

theorem spanWorths_facts : joinedFacts Try.prog 3 Try.f3 Rows.spanWorthsSpec Rows.spanWorthsRow = true := by
  unfold joinedFacts
  rw [may_enter, lifts_final, make_cut]
  kernel_rfl
theorem spanWorths_holds : Rows.SpanWorthsSaid :=
  OpenClaim.holds_of_wide 3 Try.f3 rfl rfl rfl rfl rfl rfl rfl ⟨rfl, rfl, rfl, rfl, rfl⟩ rfl rfl rfl rfl rfl (by kernel_rfl) Try.func3 spanWorths_facts
    (of_decide_eq_true (by kernel_rfl)) (by unfold Func.isWrapper; rw [if_neg (of_decide_eq_false (by kernel_rfl))]; exact ⟨rfl, rfl⟩)
    (fun os started H enc _ => spanWorths_lifted os started H enc)
#print axioms spanWorths_holds
end Go.Proofs.Ythbffhlfdjpfaaa
