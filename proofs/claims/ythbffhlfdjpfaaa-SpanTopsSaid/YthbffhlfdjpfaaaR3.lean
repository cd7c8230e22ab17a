/- The document's words on flows: balances, values, costs, worth. -/
import Derived.Test.YthbffhlfdjpfaaaR2
namespace Go.Proofs.Ythbffhlfdjpfaaa
set_option linter.unusedVariables false
set_option linter.unusedSimpArgs false
open Go.RowKit

def RBalPost (w : World) (nd : Int) (L : List Arc) (f : List Int) (e : Ending) (w' : World) : Prop :=
  ∃ v, e = .returned (.tuple #[v, .int .i64 (flowE nd L f)]) ∧ Below w.heap.size w w' ∧ (flowE nd L f ≠ 0 → v = .slice none 0 0) ∧ (flowE nd L f = 0 → ∃ A c, v = .slice A nd.toNat c ∧ RdI w' (fun k => w.heap.size ≤ k) A (balL L f nd.toNat L.length))

theorem balL_snoc (L : List Arc) (f : List Int) (v j : Nat) : balL L f (v + 1) j = balL L f v j ++ [bal j (frs L) (tos L) (fls f) (v : Int)] := by simp [balL, List.range_succ]

structure RbI (w wr : World) (nd : Int) (hd : Bool) (A : Option Addr) (m c : Nat) (o : Value) (xs : List Int) : Prop where
  below : Below w.heap.size w wr
  box : Blk wr w.heap.size 24 [.int .i64 nd, .bool hd, .slice A m c]
  own : wr.ownsRow (w.heap.size + 1) 3 1 o xs.length (xs.flatMap enc1)
theorem RbI.step {w wr w1 : World} {nd : Int} {hd : Bool} {A : Option Addr} {m c : Nat} {o : Value} {xs : List Int} (h : RbI w wr nd hd A m c o xs) (hb : Below wr.heap.size wr w1) : RbI w w1 nd hd A m c o xs := ⟨below_then' h.below hb, h.box.below hb, own_below h.own hb⟩

set_option maxRecDepth 10000 in
set_option maxHeartbeats 2000000 in
theorem rbalance_calls {w : World} {okA okF : Nat → Prop} {A F : Option Addr} {L : List Arc} {f : List Int} (nd : Int) (hd : Bool) (c c' : Nat) (hA : RdA w okA A L) (hL : L.length ≤ 281474976710656) (hF : RdI w okF F f) (hf : f.length ≤ 281474976710656) :
    Calls Try.prog 82 #[.agg #[.int .i64 nd, .bool hd, .slice A L.length c], .slice F f.length c'] w (RBalPost w nd L f) := by
  have hc := fun w1 (hb : Below w.heap.size w w1) => rcheck_calls nd hd c (hA.fr (Fr.of_below (S := NoB) hb) (fun _ _ h => h)) hL
  have hw := fun w1 (hb : Below w.heap.size w w1) => rwithin_calls nd hd c c' (hA.fr (Fr.of_below (S := NoB) hb) (fun _ _ h => h)) hL (hF.fr (Fr.of_below (S := NoB) hb) (fun _ _ h => h)) hf
  obtain ⟨k, hk⟩ : ∃ k, netE nd L = k := ⟨_, rfl⟩
  obtain ⟨q, hq⟩ : ∃ q, flowB L f = q := ⟨_, rfl⟩
  simp only [hk] at hc
  simp only [hq] at hw
  obtain ⟨i0, hi, hzz⟩ := Option.map_eq_some_iff.1 info3
  simp only [Prod.mk.injEq] at hzz
  obtain ⟨hz0, hz1, hz2⟩ := hzz
  have HI := Lib.hid hi
  have HZ := Lib.hid (And.intro hz0 (And.intro hz1 hz2))
  have HC := Lib.hid hc
  have HW := Lib.hid hw
  have HK := Lib.hid hk
  have HQ := Lib.hid hq
  have HA := Lib.hid hA
  have HF := Lib.hid hF
  clear hc hk hA hF hw hq hi hz0 hz1 hz2
  have HBX := Lib.hid (Blk.new w [.int .i64 nd, .bool hd, .slice A L.length c] 24)
  go_enter Try.func82, Try.ntmps82
  go_wp2_with fail
  refine (HC.out _ one_new).mono ?_
  rintro e w1 ⟨rfl, hb1⟩
  have hq := HBX.out.below hb1
  have x0 := hq.cell 0 rfl
  have x1 := hq.cell 1 rfl
  have x2 := hq.cell 2 rfl
  have xl := hq.lt
  have HBQ := Lib.hid hq
  have HBW := Lib.hid ((one_new (w := w)).trans (hb1.mono (by simp)))
  clear hq hb1
  by_cases h0 : k = 0
  · subst h0
    obtain ⟨N, rfl, hR⟩ := netE_zero HK.out
    have hN := hR.n1
    have HR := Lib.hid hR
    clear hR
    go_wp2_with fail
    refine (HW.out _ HBW.out).mono ?_
    rintro e w2 ⟨rfl, hb2⟩
    have HB2 := Lib.hid (below_then' HBW.out hb2)
    have HBQ2 := Lib.hid (HBQ.out.below hb2)
    clear hb2 x0 x1 x2 xl
    cases q
    · go_wp2
      refine bodyPost_ret (v := .tuple #[.slice none 0 0, .int .i64 71]) (by simp only [results, Try.results82]; simp [go_sem]) rfl ⟨.slice none 0 0, by rw [flowE_eq HK.out, HQ.out]; rfl, HB2.out, fun _ => rfl, fun h => ?_⟩
      rw [flowE_eq HK.out, HQ.out] at h
      simp at h
    · have hE : flowE (N : Int) L f = 0 := by rw [flowE_eq HK.out, HQ.out]; rfl
      obtain ⟨_, z2, z3⟩ := flowE_zero hE
      have HE := Lib.hid hE
      have hfb : ∀ i, i < L.length → 0 ≤ fls f i ∧ fls f i ≤ 1048576 := fun i hi => by have := z3 i hi; have := HR.out.arcs.cap i hi; omega
      have hlv : ∀ (W : World) (v : Nat), Below w.heap.size w W → Calls Try.prog 78 #[.agg #[.int .i64 (N : Int), .bool hd, .slice A L.length c], .slice F f.length c', .int .i64 (v : Int)] W fun e w' => e = .returned (.int .i64 (bal L.length (frs L) (tos L) (fls f) (v : Int))) ∧ Below W.heap.size W w' :=
        fun W v hb => rleaves_calls (N : Int) hd c c' (v : Int) (HA.out.fr (Fr.of_below (S := NoB) hb) (fun _ _ h => h)) HR.out.len (HF.out.fr (Fr.of_below (S := NoB) hb) (fun _ _ h => h)) z2 hfb
      have HLV := Lib.hid hlv
      clear hE z2 z3 hfb hlv
      go_wp2
      go_loopw [7, 8] (fun o i wr => ∃ v : Nat, v ≤ N ∧ i = .int .i64 (v : Int) ∧ Hid (RbI w wr (N : Int) hd A L.length c o (balL L f v L.length))) (fun _ i _ => N - (intOf i).toNat)
      case atStart => exact ⟨0, Nat.zero_le _, rfl, ⟨HB2.out, HBQ2.out, by simpa [balL] using World.ownsRow_nil _ _ _ _⟩⟩
      case round =>
        obtain ⟨v, hv, rfl, hI⟩ := hrel
        have y0 := hI.out.box.cell 0 rfl
        have y1 := hI.out.box.cell 1 rfl
        have y2 := hI.out.box.cell 2 rfl
        have yl := hI.out.box.lt
        by_cases hlt : v < N
        · go_wp2_with fail
          refine (HLV.out _ v hI.out.below).mono ?_
          rintro e w3 ⟨rfl, hb3⟩
          have HI3 := Lib.hid (hI.out.step hb3)
          clear hb3 hI y0 y1 y2 yl
          obtain ⟨x, hx⟩ : ∃ x, bal L.length (frs L) (tos L) (fls f) (v : Int) = x := ⟨_, rfl⟩
          rw [hx]
          have HX := Lib.hid hx
          have hlen := balL_len L f v L.length
          have HLEN := Lib.hid hlen
          clear hx hlen
          go_wp2_with (first | (at_builtin; refine wpList_append_own_at _ rfl (.tmp 24) (.tmp 29) 25 rfl (w.heap.size + 1) 3 i0 (.int .i64 0) 1 8 Try.underlying25 HI.out HZ.out.1 HZ.out.2.1 HZ.out.2.2 rfl (by omega) u7 (balL L f v L.length).length _ rfl (HI3.out.own.alloc _) ⟨w3.heap.size, 0, none⟩ 1 1 [.int .i64 x] rfl rfl ?c1 ?c2 ?c3 ?c4 ?c5 ?_))
          case c1 => exact cell_one_new _ _ _
          case c2 => intro u hu; simp at hu; subst hu; rfl
          case c3 => have := HLEN.out; unfold maxLen; omega
          case c4 => have := HLEN.out; omega
          case c5 => have := HI3.out.box.lt; simp; omega
          intro v1 w4 hown2 hgr _ hat
          have hlow : ∀ k, u7.ownBlock = some k → w.heap.size + 1 ≤ k := fun k hk => (HI3.out.own.lt k hk).1
          have hbw := HI3.out.box.lt
          have HI4 := Lib.hid (show RbI w w4 (N : Int) hd A L.length c v1 (balL L f (v + 1) L.length) from ⟨grown_below HI3.out.below hgr (fun k hk => by have := hlow k hk; omega), (HI3.out.box.alloc _).grown hgr (fun e => by have := hlow _ e.symm; omega), by
            rw [balL_snoc, HX.out]
            simpa [enc1] using hown2⟩)
          clear hown2 hgr hat hlow
          go_wp2
          go_roundw
          case rel => exact ⟨v + 1, by omega, by go_num, HI4⟩
          case measure => simp [intOf]; omega
        · have e : v = N := by omega
          subst e
          obtain ⟨A', c2, e2, hc2, hr⟩ := own_rdI hI.out.own
          rw [balL_len] at e2
          subst e2
          go_wp2
          refine bodyPost_ret (v := .tuple #[.slice A' v c2, .int .i64 0]) (by simp only [results, Try.results82]; simp [go_sem]) rfl ⟨.slice A' v c2, by rw [HE.out], hI.out.below, fun h => absurd HE.out h, fun _ => ⟨A', c2, by rw [Int.toNat_natCast], by rw [Int.toNat_natCast]; exact hr.mono (fun k _ hk => by omega)⟩⟩
  · have e1 : (k != 0) = true := by simp [h0]
    have hE : flowE nd L f = k := by rw [flowE, if_pos (by rw [HK.out]; exact h0), HK.out]
    have HE := Lib.hid hE
    clear hE
    go_wp2
    refine bodyPost_ret (v := .tuple #[.slice none 0 0, .int .i64 k]) (by simp only [results, Try.results82]; simp [go_sem]) rfl ⟨.slice none 0 0, by rw [HE.out], HBW.out, fun _ => rfl, fun h => absurd (HE.out.symm.trans h) h0⟩

set_option maxRecDepth 10000 in
set_option maxHeartbeats 2000000 in
theorem rcheckf_calls {w : World} {okA okF : Nat → Prop} {A F : Option Addr} {L : List Arc} {f : List Int} (nd : Int) (hd : Bool) (c c' : Nat) (s t : Int) (hA : RdA w okA A L) (hL : L.length ≤ 281474976710656) (hF : RdI w okF F f) (hf : f.length ≤ 281474976710656) :
    Calls Try.prog 43 #[.agg #[.int .i64 nd, .bool hd, .slice A L.length c], .int .i64 s, .int .i64 t, .slice F f.length c'] w fun e w' => e = .returned (.tuple #[.int .i64 (checkV nd L s t f), .int .i64 (checkE nd L s t f)]) ∧ Below w.heap.size w w' := by
  have hc := fun w1 (hb : Below w.heap.size w w1) => rends_calls nd hd c s t (hA.fr (Fr.of_below (S := NoB) hb) (fun _ _ h => h)) hL
  obtain ⟨k, hk⟩ : ∃ k, endsE nd L s t = k := ⟨_, rfl⟩
  simp only [hk] at hc
  have hb := fun w1 (hb : Below w.heap.size w w1) => rbalance_calls nd hd c c' (hA.fr (Fr.of_below (S := NoB) hb) (fun _ _ h => h)) hL (hF.fr (Fr.of_below (S := NoB) hb) (fun _ _ h => h)) hf
  have HC := Lib.hid hc
  have HBA := Lib.hid hb
  have HK := Lib.hid hk
  clear hc hk hb hA hF
  have HBX := Lib.hid (Blk.new w [.int .i64 nd, .bool hd, .slice A L.length c] 24)
  go_enter Try.func43, Try.ntmps43
  go_wp2_with fail
  refine (HC.out _ one_new).mono ?_
  rintro e w1 ⟨rfl, hb1⟩
  have hq := HBX.out.below hb1
  have x0 := hq.cell 0 rfl
  have x1 := hq.cell 1 rfl
  have x2 := hq.cell 2 rfl
  have xl := hq.lt
  have HBQ := Lib.hid hq
  have HBW := Lib.hid ((one_new (w := w)).trans (hb1.mono (by simp)))
  clear hq hb1
  by_cases h0 : k = 0
  · subst h0
    obtain ⟨N, rfl, hR, hs, ht, hst⟩ := endsE_zero HK.out
    obtain ⟨q, hq⟩ : ∃ q, flowE (N : Int) L f = q := ⟨_, rfl⟩
    have HQ := Lib.hid hq
    have HS := Lib.hid hs
    have hN := hR.n1
    clear hq hR hs ht hst
    go_wp2_with fail
    refine (HBA.out _ HBW.out).mono ?_
    rintro e w2 ⟨v, rfl, hb2, hv1, hv2⟩
    have HBW2 := Lib.hid (below_then' HBW.out hb2)
    have hq2 := HBQ.out.below hb2
    rw [HQ.out]
    clear hb2 x0 x1 x2 xl
    have x0 := hq2.cell 0 rfl
    have xl := hq2.lt
    clear hq2
    by_cases hq0 : q = 0
    · subst hq0
      obtain ⟨Ab, cb, rfl, hB⟩ := hv2 HQ.out
      rw [Int.toNat_natCast] at hB ⊢
      have HB := Lib.hid hB
      clear hv1 hv2 hB
      go_wp2
      go_loop [13] (fun i => ∃ j : Nat, j ≤ N ∧ i = .int .i64 j ∧ Hid (∀ v : Nat, v < j → (v : Int) ≠ s → (v : Int) ≠ t → bal L.length (frs L) (tos L) (fls f) (v : Int) = 0)) (fun i => N - (intOf i).toNat)
      case atStart => exact ⟨0, Nat.zero_le _, rfl, fun v hv => absurd hv (by omega)⟩
      case round =>
        obtain ⟨j, hj, rfl, hall⟩ := hrel
        by_cases hlt : j < N
        · obtain ⟨b, off, rfl, _, cj⟩ := HB.out j (by rw [balL_len]; exact hlt)
          rw [balL_get L f L.length hlt] at cj
          have bl := World.block_lt_of_cell? _ _ cj
          obtain ⟨x, hx⟩ : ∃ x, bal L.length (frs L) (tos L) (fls f) (j : Int) = x := ⟨_, rfl⟩
          rw [hx] at cj
          have HX := Lib.hid hx
          clear hx
          have hnext : x = 0 ∨ (j : Int) = s ∨ (j : Int) = t → ∀ v : Nat, v < j + 1 → (v : Int) ≠ s → (v : Int) ≠ t → bal L.length (frs L) (tos L) (fls f) (v : Int) = 0 := by
            intro h v hv h1 h2
            by_cases hvj : v = j
            · subst hvj
              rcases h with h | h | h
              · rw [HX.out, h]
              · exact absurd h h1
              · exact absurd h h2
            · exact hall.out v (by omega) h1 h2
          have HNX := Lib.hid hnext
          clear hnext
          by_cases q2 : (j : Int) = s
          · have e2 : ((j : Int) != s) = false := by simp [q2]
            have HN := Lib.hid (HNX.out (.inr (.inl q2)))
            clear q2
            go_wp2
            go_round
            case rel => exact ⟨j + 1, by omega, by go_num, HN⟩
            case measure => simp [intOf]; omega
          · have e2 : ((j : Int) != s) = true := by simp [q2]
            by_cases q3 : (j : Int) = t
            · have e3 : ((j : Int) != t) = false := by simp [q3]
              have HN := Lib.hid (HNX.out (.inr (.inr q3)))
              clear q3
              go_wp2
              go_round
              case rel => exact ⟨j + 1, by omega, by go_num, HN⟩
              case measure => simp [intOf]; omega
            · have e3 : ((j : Int) != t) = true := by simp [q3]
              by_cases q1 : x = 0
              · have e1 : (x != 0) = false := by simp [q1]
                have HN := Lib.hid (HNX.out (.inl q1))
                clear q1
                go_wp2
                go_round
                case rel => exact ⟨j + 1, by omega, by go_num, HN⟩
                case measure => simp [intOf]; omega
              · have e1 : (x != 0) = true := by simp [q1]
                have hE : checkE (N : Int) L s t f = 71 := by
                  unfold checkE
                  rw [if_neg (by rw [HK.out]; simp), if_neg (by rw [HQ.out]; simp), if_pos]
                  cases hev : evenB L f (N : Int).toNat s t
                  · rfl
                  · rw [Int.toNat_natCast] at hev
                    have := evenB_iff.1 hev (j : Int) ⟨by omega, by omega⟩ q2 q3
                    rw [HX.out] at this
                    exact absurd this q1
                have HE := Lib.hid hE
                clear hE
                go_wp2
                go_ret2
                refine ⟨?_, HBW2.out⟩
                rw [checkV, HE.out]
                rfl
        · have e : j = N := by omega
          subst e
          obtain ⟨sn, hsn⟩ := Int.eq_ofNat_of_zero_le HS.out.1
          have hsN : sn < j := by have := HS.out.2; omega
          obtain ⟨b, off, rfl, _, cs⟩ := HB.out sn (by rw [balL_len]; exact hsN)
          rw [balL_get L f L.length hsN] at cs
          have bl := World.block_lt_of_cell? _ _ cs
          have hE : checkE (j : Int) L s t f = 0 := by
            unfold checkE
            rw [if_neg (by rw [HK.out]; simp), if_neg (by rw [HQ.out]; simp), if_neg]
            rw [Int.toNat_natCast, evenB_iff.2]
            · simp
            · intro v hv h1 h2
              obtain ⟨vn, rfl⟩ := Int.eq_ofNat_of_zero_le hv.1
              exact hall.out vn (by have := hv.2; omega) h1 h2
          have HE := Lib.hid hE
          clear hE
          subst hsn
          go_wp2
          go_ret2
          refine ⟨?_, HBW2.out⟩
          rw [checkV, HE.out]
          rfl
    · have e1 : (q != 0) = true := by simp [hq0]
      have hE : checkE (N : Int) L s t f = q := by
        unfold checkE
        rw [if_neg (by rw [HK.out]; simp), if_pos (by rw [HQ.out]; exact hq0), HQ.out]
      have HE := Lib.hid hE
      have hv := hv1 (by rw [HQ.out]; exact hq0)
      subst hv
      clear hE hv1 hv2
      go_wp2
      go_ret2
      refine ⟨?_, HBW2.out⟩
      rw [checkV, HE.out, if_neg hq0]
      rfl
  · have e1 : (k != 0) = true := by simp [h0]
    have hE : checkE nd L s t f = k := by
      unfold checkE
      rw [if_pos (by rw [HK.out]; exact h0), HK.out]
    have HE := Lib.hid hE
    clear hE
    go_wp2
    go_ret2
    refine ⟨?_, HBW.out⟩
    rw [checkV, HE.out, if_neg h0]
    rfl

set_option maxRecDepth 10000 in
set_option maxHeartbeats 2000000 in
theorem rcost_calls {w : World} {okA okF : Nat → Prop} {A F : Option Addr} {L : List Arc} {f : List Int} (nd : Int) (hd : Bool) (c c' : Nat) (hA : RdA w okA A L) (hL : L.length ≤ 281474976710656) (hF : RdI w okF F f) (hf : f.length ≤ 281474976710656) :
    Calls Try.prog 65 #[.agg #[.int .i64 nd, .bool hd, .slice A L.length c], .slice F f.length c'] w fun e w' => e = .returned (.tuple #[.int .i64 (if flowE nd L f = 0 then paidF L f else 0), .int .i64 (flowE nd L f)]) ∧ Below w.heap.size w w' := by
  have hc := fun w1 (hb : Below w.heap.size w w1) => rfasked_calls nd hd c c' (hA.fr (Fr.of_below (S := NoB) hb) (fun _ _ h => h)) hL (hF.fr (Fr.of_below (S := NoB) hb) (fun _ _ h => h)) hf
  obtain ⟨k, hk⟩ : ∃ k, flowE nd L f = k := ⟨_, rfl⟩
  simp only [hk] at hc
  rw [hk]
  have HC := Lib.hid hc
  have HK := Lib.hid hk
  have HA := Lib.hid hA
  have HF := Lib.hid hF
  clear hc hk hA hF
  have HBX := Lib.hid (Blk.new w [.int .i64 nd, .bool hd, .slice A L.length c] 24)
  by_cases h0 : k = 0
  · subst h0
    obtain ⟨z1, z2, z3⟩ := flowE_zero HK.out
    obtain ⟨N, rfl, hR⟩ := netE_zero z1
    have hL2 := hR.len
    have HFL := Lib.hid (show ∀ i, i < L.length → 0 ≤ fls f i ∧ fls f i ≤ 1048576 from fun i hi => by have := z3 i hi; have := hR.arcs.cap i hi; omega)
    have HCC := Lib.hid hR.arcs.tm
    have HLF := Lib.hid z2
    rw [if_pos rfl]
    rw [z2] at HC ⊢
    clear z1 z2 z3 hR
    go_enter Try.func65, Try.ntmps65
    go_wp2_with fail
    refine (HC.out _ one_new).mono ?_
    rintro e w1 ⟨rfl, hb1⟩
    have HBQ := Lib.hid (HBX.out.below hb1)
    have HBW := Lib.hid ((one_new (w := w)).trans (hb1.mono (by simp)))
    clear hb1
    go_wp2
    go_loopw [7, 8] (fun k i wr => ∃ j : Nat, j ≤ L.length ∧ i = .int .i64 j ∧ k = .int .i64 (sumTo j fun i => fls f i * tms L i) ∧ Hid (Below w.heap.size w wr ∧ Blk wr w.heap.size 24 [.int .i64 (N : Int), .bool hd, .slice A L.length c])) (fun _ i _ => L.length - (intOf i).toNat)
    case atStart => exact ⟨0, Nat.zero_le _, rfl, rfl, HBW.out, HBQ.out⟩
    case round =>
      obtain ⟨j, hj, rfl, rfl, hB⟩ := hrel
      have y2 := hB.out.2.cell 2 rfl
      have yl := hB.out.2.lt
      by_cases hlt : j < L.length
      · obtain ⟨b, off, rfl, _, a0, a1, a2, a3⟩ := HA.out j hlt
        obtain ⟨b', off', rfl, _, g0⟩ := HF.out j (by rw [HLF.out]; exact hlt)
        have a3' := cell_kept hB.out.1 a3
        have g0' : wr.cell? ⟨b', off' + j, none⟩ = some (.int .i64 (fls f j)) := cell_kept hB.out.1 g0
        have bl := World.block_lt_of_cell? _ _ a3'
        have bl' := World.block_lt_of_cell? _ _ g0'
        have h1 := paid_bound (k := j) (fun i hi => HFL.out i (by omega)) (fun i hi => HCC.out i (by omega))
        have h2 := HFL.out j hlt
        have h3 := HCC.out j hlt
        have h4 : 0 ≤ fls f j * tms L j := Int.mul_nonneg h2.1 h3.1
        have h5 : fls f j * tms L j ≤ 1048576 * 1048576 := Int.mul_le_mul h2.2 h3.2 h3.1 (by omega)
        have hsum : sumTo (j + 1) (fun i => fls f i * tms L i) = sumTo j (fun i => fls f i * tms L i) + fls f j * tms L j := rfl
        obtain ⟨x, hx⟩ : ∃ x, sumTo j (fun i => fls f i * tms L i) = x := ⟨_, rfl⟩
        rw [hx] at h1 hsum ⊢
        have e1 : IntKind.i64.wrap (fls f j * tms L j) = fls f j * tms L j := IntWalk.i64_in _ (by omega)
        have e2 : IntKind.i64.wrap (x + fls f j * tms L j) = x + fls f j * tms L j := IntWalk.i64_in _ (by omega)
        have HX := Lib.hid hx
        have HSS := Lib.hid hsum
        clear hx hsum a0 a1 a2 a3 g0
        go_wp2
        go_quiet (fail)
        go_wp2
        go_roundw
        case rel => exact ⟨j + 1, by omega, by go_num, by rw [HSS.out], bdN hB.out.1 _, hB.out.2.drewN _⟩
        case measure => simp [intOf]; omega
      · go_wp2
        go_ret2
        have e : j = L.length := by omega
        subst e
        exact ⟨rfl, hB.out.1⟩
  · have e1 : (k != 0) = true := by simp [h0]
    rw [if_neg h0]
    go_enter Try.func65, Try.ntmps65
    go_wp2_with fail
    refine (HC.out _ one_new).mono ?_
    rintro e w1 ⟨rfl, hb1⟩
    have HBW := Lib.hid ((one_new (w := w)).trans (hb1.mono (by simp)))
    clear hb1
    go_wp2
    go_ret2
    exact ⟨rfl, HBW.out⟩
end Go.Proofs.Ythbffhlfdjpfaaa
