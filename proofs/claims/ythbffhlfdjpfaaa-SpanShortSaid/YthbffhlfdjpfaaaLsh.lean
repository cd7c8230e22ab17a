/- Arcs that take longer than the horizon change nothing; no condition. -/
import Derived.Test.YthbffhlfdjpfaaaR6
import Derived.Test.YthbffhlfdjpfaaaIni
namespace Go.Proofs.Ythbffhlfdjpfaaa
set_option linter.unusedVariables false
set_option linter.unusedSimpArgs false
open Go.ChangeShapes Go.WideShapes Go.ChangeAt Go.RowKit Go.Deep Go.Joins

def shL (M : List Arc) (h : Int) (j : Nat) : List Arc := (M.take j).filter fun a => decide (a.tm ≤ h)
theorem shL_all (M : List Arc) (h : Int) : shL M h M.length = M.filter fun a => decide (a.tm ≤ h) := by simp [shL]
theorem shL_take {M : List Arc} {h : Int} {j : Nat} (hj : j < M.length) (ht : tms M j ≤ h) : shL M h (j + 1) = shL M h j ++ [⟨frs M j, tos M j, caps M j, tms M j⟩] := by
  have e : M.getD j default = M[j] := by simp [List.getD_eq_getElem?_getD, hj]
  unfold shL frs tos caps tms at *
  rw [e] at ht ⊢
  rw [List.take_succ_eq_append_getElem hj, List.filter_append]
  simp [ht]
theorem shL_skip {M : List Arc} {h : Int} {j : Nat} (hj : j < M.length) (ht : ¬ tms M j ≤ h) : shL M h (j + 1) = shL M h j := by
  have e : M.getD j default = M[j] := by simp [List.getD_eq_getElem?_getD, hj]
  unfold shL tms at *
  rw [e] at ht
  rw [List.take_succ_eq_append_getElem hj, List.filter_append]
  simp [ht]
theorem shL_len (M : List Arc) (h : Int) (j : Nat) : (shL M h j).length ≤ M.length := by
  unfold shL
  refine Nat.le_trans (List.length_filter_le _ _) ?_
  simp; omega
theorem short_law {M : List Arc} {N : Nat} {s t h k m : Int} (hR : Right M N) (hs : Nd N s) (ht : Nd N t) (hst : s ≠ t) (h0 : 0 ≤ h) (hk : MostIs M N s t (h + 1) k) (hm : MostIs (shL M h M.length) N s t (h + 1) m) : k = m := by
  obtain ⟨f, a, rfl⟩ := hk
  obtain ⟨g, b, rfl⟩ := hm
  rw [shL_all] at b ⊢
  exact short_worth hR.arcs h0 hs ht hst a b
theorem Right.short {M : List Arc} {N : Nat} (hR : Right M N) (h : Int) : Right (shL M h M.length) N :=
  ⟨hR.n0, hR.n1, Nat.le_trans (shL_len ..) hR.len, fun a ha => hR.arcs a (by rw [shL_all] at ha; exact (List.mem_filter.1 ha).1)⟩

/-- within the loop that takes the short ones -/
structure ShI (w wr : World) (N : Nat) (hd : Bool) (A : Option Addr) (M : List Arc) (c : Nat) (V : Value) (K : List Arc) : Prop where
  below : Below w.heap.size w wr
  b : Blk wr w.heap.size 24 [.int .i64 (N : Int), .bool hd, .slice A M.length c]
  own : wr.ownsRow (w.heap.size + 1) 49 4 V K.length (encA K)
theorem ShI.more {w wr w1 : World} {N : Nat} {hd : Bool} {A : Option Addr} {M : List Arc} {c : Nat} {V V1 : Value} {K K' : List Arc} {a : Arc} {n : Nat} {l : List Value} (h : ShI w wr N hd A M c V K) (hK : K' = K ++ [a]) (hn : n = K.length + 1) (hl : l = encA K ++ enc4 a) (hown : w1.ownsRow (w.heap.size + 1) 49 4 V1 n l)
    (hg : wr.grownBy w1 V.ownBlock) : ShI w w1 N hd A M c V1 K' := by
  subst hK hn hl
  have hlow : ∀ k, V.ownBlock = some k → w.heap.size + 1 ≤ k := fun k hk => (h.own.lt k hk).1
  refine ⟨h.below.grown hg h.below.size fun k hk => by have := hlow k hk; omega, h.b.grown hg fun e => by have := hlow _ e.symm; omega, ?_⟩
  simpa [encA] using hown
theorem ShI.step {w wr w1 : World} {N : Nat} {hd : Bool} {A : Option Addr} {M : List Arc} {c : Nat} {V : Value} {K : List Arc} (h : ShI w wr N hd A M c V K) (hb : Below wr.heap.size wr w1) : ShI w w1 N hd A M c V K :=
  ⟨below_then' h.below hb, h.b.below hb, own_below h.own hb⟩

theorem one_any {w : World} {o : Obj} : Below w.heap.size w (w.alloc o) := one_new
set_option maxRecDepth 10000 in
set_option maxHeartbeats 2000000 in
theorem spanShort_calls {w : World} (x : Sm) (hx : SmOk w x) :
    Calls Try.prog 7 #[x.val] w fun e w' => e = .returned (.bool true) ∧ Below w.heap.size w w' := by
  obtain ⟨i0, hi0, hzz⟩ := Option.map_eq_some_iff.1 info49
  simp only [Prod.mk.injEq] at hzz
  have HI0 := Lib.hid hi0
  have HZ0 := Lib.hid hzz
  have HX := Lib.hid hx
  have HBX := Lib.hid (Blk.new w x.cells 45)
  have HRD := Lib.hid (fun w1 (hb : Below w.heap.size w w1) => read_calls (k := 10) (hx.below hb) (by omega))
  clear hx hi0 hzz
  unfold Sm.val Sm.cells at *
  go_enter Try.func7, Try.ntmps7
  go_wp2_with fail
  refine (awake12_calls _).mono ?_
  rintro e w1 ⟨rfl, hb1⟩
  have hq := HBX.out.below hb1
  have x0 := hq.cell 0 rfl
  have x1 := hq.cell 1 rfl
  have x2 := hq.cell 2 rfl
  have x3 := hq.cell 3 rfl
  have x4 := hq.cell 4 rfl
  have x5 := hq.cell 5 rfl
  have xl := hq.lt
  have HB1 := Lib.hid ((one_new (w := w)).trans (hb1.mono (by simp)))
  clear hb1 hq
  go_wp2_with fail
  refine (HRD.out _ HB1.out).mono ?_
  rintro e w2 ⟨N, M, A, c, s, t, h, rfl, hA, hc, hl10, hR, hN5, hs, ht, hst, h0, h7, _, hb2⟩
  have HB2 := Lib.hid (below_then' HB1.out hb2)
  clear hb2 x0 x1 x2 x3 x4 x5 xl
  have HA := Lib.hid hA
  have HR := Lib.hid hR
  have HS := Lib.hid (And.intro hs (And.intro ht hst))
  have HB3 := Lib.hid (Blk.new w2 [.int .i64 (N : Int), .bool x.hd, .slice A M.length c] 24)
  have HM1 := Lib.hid (fun w3 (hb : Below w2.heap.size w2 w3) => most_calls (N : Int) x.hd c s t h (hA.fr (Fr.of_below (S := NoB) hb) (fun _ _ h => h)) (by omega) hc)
  have HQ := Lib.hid (hR.askedE (k := h) hs ht hst (by omega))
  clear hA hR hs ht hst
  have b0 := HB3.out.cell 0 rfl
  have b1 := HB3.out.cell 1 rfl
  have b2 := HB3.out.cell 2 rfl
  have bl := HB3.out.lt
  go_wp2_with fail
  refine (HM1.out _ one_new).mono ?_
  rintro e w3 ⟨k, rfl, hb3, _, hk⟩
  rw [HQ.out] at hk ⊢
  have HK := Lib.hid (hk rfl)
  have HI := Lib.hid (show ShI w2 w3 N x.hd A M c (.slice none 0 0) (shL M h 0) from ⟨(one_new (w := w2)).trans (hb3.mono (by simp)), HB3.out.below hb3, ⟨rfl, .inl ⟨rfl, rfl⟩⟩⟩)
  clear hb3 hk b0 b1 b2 bl
  go_wp2
  go_loopw [10, 11] (fun v i wr => ∃ (j : Nat), j ≤ M.length ∧ i = .int .i64 j ∧ Hid (ShI w2 wr N x.hd A M c v (shL M h j))) (fun _ i _ => M.length - (intOf i).toNat)
  case atStart => exact ⟨0, Nat.zero_le _, rfl, HI⟩
  case round =>
    clear HI
    obtain ⟨j, hj, rfl, hI⟩ := hrel
    have b2 := hI.out.b.cell 2 rfl
    have bl := hI.out.b.lt
    by_cases hjl : j < M.length
    · obtain ⟨bA, oA, rfl, _, a0, a1, a2, a3⟩ := (HA.out.fr (Fr.of_below (S := NoB) hI.out.below) (fun _ _ h => h)) j hjl
      have al := World.block_lt_of_cell? _ _ a0
      by_cases hth : tms M j ≤ h
      · have HK2 := Lib.hid (shL_take hjl hth)
        have hlen := shL_len M h j
        obtain ⟨K, hK⟩ : ∃ K, shL M h j = K := ⟨_, rfl⟩
        rw [hK] at hI hlen HK2
        clear hK
        have HOW := Lib.hid hI.out.own
        go_wp2_with (first | (at_builtin; refine wpList_append_own_at _ rfl (.tmp 47) (.tmp 53) 22 rfl (w2.heap.size + 1) 49 i0 _ 4 32 Try.underlying22 HI0.out HZ0.out.1 HZ0.out.2.1 HZ0.out.2.2 rfl (by omega) u10 K.length _ rfl (HOW.out.alloc _) ⟨wr.heap.size, 0, none⟩ 1 1 [.int .i64 (frs M j), .int .i64 (tos M j), .int .i64 (caps M j), .int .i64 (tms M j)] rfl rfl ?c1 ?c2 ?c3 ?c4 ?c5 ?_))
        case c2 => simp [Value.oneCell']
        case c3 => unfold maxLen; omega
        case c4 => omega
        case c5 => have := hI.out.below.size; simp; omega
        intro v1 w4 hown2 hgr _ hat
        go_wp2
        go_roundw
        case rel => exact ⟨j + 1, by omega, by go_num, (hI.out.step one_any).more HK2.out rfl rfl hown2 hgr⟩
        case measure => simp [intOf]; omega
      · have HK2 := Lib.hid (shL_skip hjl hth)
        go_wp2
        go_roundw
        case rel => exact ⟨j + 1, by omega, by go_num, by rw [HK2.out]; exact hI⟩
        case measure => simp [intOf]; omega
    · have hje : j = M.length := by omega
      subst hje
      obtain ⟨A', c', e, hc', hA'⟩ := RdA.own hI.out.own
      have hlen := shL_len M h M.length
      have HSH := Lib.hid (HR.out.short h)
      have HLW := Lib.hid (fun m hm => short_law (m := m) HR.out HS.out.1 HS.out.2.1 HS.out.2.2 h0 (by have := HK.out; rwa [Int.toNat_natCast] at this) hm)
      obtain ⟨K, hK⟩ : ∃ K, shL M h M.length = K := ⟨_, rfl⟩
      rw [hK] at hI hlen HSH HLW e hc' hA'
      subst e
      clear hK
      have f2 := hI.out.b.free 2
      have HB4 := Lib.hid (hI.out.b.set 2 (.slice A' K.length c'))
      have hA2 : RdA (wr.setCell ⟨w2.heap.size, 2, none⟩ (.slice A' K.length c')) (fun b => w2.heap.size + 1 ≤ b) A' K :=
        hA'.fr ((Fr.refl (OneB w2.heap.size) wr).setCell (p := ⟨w2.heap.size, 2, none⟩) (.inl rfl) _) (fun k hk hs => by have : k = w2.heap.size := hs; omega)
      have HB5 := Lib.hid (below_then' HB2.out (hI.out.below.setCell (p := ⟨w2.heap.size, 2, none⟩) (Nat.le_refl _) (.slice A' K.length c')))
      have HM2 := Lib.hid (most_calls (N : Int) x.hd c' s t h hA2 (by omega) hc')
      have HQ2 := Lib.hid (HSH.out.askedE (k := h) HS.out.1 HS.out.2.1 HS.out.2.2 (by omega))
      clear hA2 hA' hI
      have b0 := HB4.out.cell 0 rfl
      have b1 := HB4.out.cell 1 rfl
      have b2' := HB4.out.cell 2 rfl
      have bl' := HB4.out.lt
      go_wp2_with (first | (go_at_call 31; refine (HM2.out).mono ?_; rintro e w5 ⟨m, rfl, hb5, _, hm⟩; rw [HQ2.out] at hm ⊢))
      have HB6 := Lib.hid (below_then' HB5.out hb5)
      have hkm : k = m := HLW.out m (by have := hm (by simp); rwa [Int.toNat_natCast] at this)
      subst hkm
      clear hb5 hm
      go_wp2
      go_ret
      exact ⟨by show Ending.returned (.bool (k == k)) = _; rw [beq_self_eq_true], HB6.out⟩
set_option maxRecDepth 100000 in
theorem spanShort_lifted (os : Os) (started : os.Started) (H : Type) (enc : TypeId × Value → H) :
    ReturnsInHanded {} Try.checked os 7 .any (Rows.spanShortSpec.pre6 enc Try.prog Try.f7 Rows.spanShortRow.domain false) (Rows.spanShortSpec.post enc Try.prog Try.f7 false true false false) := by
  refine returnsInHanded_of_change_sized (C := Try.checked) tryOwn started (by kernel_rfl) Try.func7
    (ChangeSpec.witness6 (enc := enc) (C := Try.checked) false ⟨#[], #[.agg #[.int .u8 0, .bool false, .slice none 0 0, .int .u8 0, .int .u8 0, .int .u8 0]], []⟩ 8 (by kernel_rfl) (by kernel_rfl) (by kernel_rfl) (by kernel_rfl)) ?_
  intro W base args ds gs before hval0 hW hcnd hsz0 _
  have hval : ∀ (j : Nat) t v, Try.f7.params[j]? = some t → args[j]? = some v → Value.okWide Try.prog W .any base t v := hval0
  have hW' := hW
  obtain ⟨p, q, hA0, hV, rfl, hfz, hnd⟩ := hW
  have hA : DataW.TrodAll enc Try.prog W 0 (fun _ => true) true Try.f7.params.toList args.toList ds p := hA0
  have hsz : (DataW.weightsEach Try.prog (Try.f7.params.toList ++ Rows.spanShortSpec.plain.varTypes Try.prog) (ds ++ gs)).all (· ≤ reachBytes) = true := hsz0
  have hkeep := hA
  rw [Try.params7] at hA hval hsz hkeep
  obtain ⟨v0, vs0, d0, ds0, p0, q0, hargs, rfl, rfl, h0, r0⟩ := trodAll_cons hA
  obtain ⟨rfl, rfl, rfl⟩ := trodAll_nil r0
  obtain rfl : args = #[v0] := by cases args; simp_all
  obtain ⟨rfl, rfl⟩ := trodVars_none hV
  obtain ⟨x0, rfl, hR0⟩ := open_small (hval 0 45 v0 rfl rfl) h0
  clear hA0 hval0
  refine (spanShort_calls x0 hR0).mono fun e W' ⟨he, bel⟩ => ?_
  subst he
  exact ⟨_, rfl, _, _, _, [], _, [], hW', trodAll_mk1 (shut_bool Try.underlying4 _), kept_all bel _ _ _ _ (by decide +kernel) hkeep, rfl, bel.frame _, fun h => by cases h⟩

theorem spanShort_facts : joinedFacts Try.prog 7 Try.f7 Rows.spanShortSpec Rows.spanShortRow = true := by
  unfold joinedFacts
  rw [may_enter, lifts_final, make_cut]
  kernel_rfl
theorem spanShort_holds : Rows.SpanShortSaid :=
  OpenClaim.holds_of_wide 7 Try.f7 rfl rfl rfl rfl rfl rfl rfl ⟨rfl, rfl, rfl, rfl, rfl⟩ rfl rfl rfl rfl rfl (by kernel_rfl) Try.func7 spanShort_facts
    (of_decide_eq_true (by kernel_rfl)) (by unfold Func.isWrapper; rw [if_neg (of_decide_eq_false (by kernel_rfl))]; exact ⟨rfl, rfl⟩)
    (fun os started H enc _ => spanShort_lifted os started H enc)
#print axioms spanShort_holds
end Go.Proofs.Ythbffhlfdjpfaaa
