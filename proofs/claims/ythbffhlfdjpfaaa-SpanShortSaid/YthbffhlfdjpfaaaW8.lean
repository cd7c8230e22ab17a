/- A seeker for a network and a flow: for each node the steps that begin there. -/
import Derived.Test.YthbffhlfdjpfaaaW7b
import Derived.Deep.AppendLies
import Derived.Deep.DeepCutAuto
import Derived.Deep.DrawnRows
import Derived.Deep.RegionLaw
namespace Go.Proofs.Ythbffhlfdjpfaaa
set_option linter.unusedVariables false
set_option linter.unusedSimpArgs false
open Go.RowKit

set_option maxRecDepth 10000 in
set_option maxHeartbeats 2000000 in
theorem at_calls {w : World} {ok : Nat → Prop} {A : Option Addr} {L : List Arc} (N : Nat) (hd : Bool) (c : Nat) (F : Value) (hA : RdA w ok A L) (hL : L.length ≤ 200) (hN : N ≤ 50) (hc : L.length ≤ c)
    (hv : ∀ i, i < L.length → 0 ≤ frs L i ∧ frs L i < N) (hv2 : ∀ i, i < L.length → 0 ≤ tos L i ∧ tos L i < N) (F1 : Option Addr) (f1 f2 : Nat) (hF : F = .slice F1 f1 f2) :
    Calls Try.prog 109 #[.agg #[.int .i64 (N : Int), .bool hd, .slice A L.length c], F] w (AtPost w N hd (.slice A L.length c) F L) := by
  subst hF
  have hmk := mk1 (P := Try.prog) 135 56 (.slice none 0 0) 24 Try.underlying135 info56 rfl (by omega) N (by omega)
  have HA := Lib.hid hA
  have HV := Lib.hid hv
  have HV2 := Lib.hid hv2
  have hlv : ∀ w1 : World, Below w.heap.size w w1 → Calls Try.prog 125 #[.agg #[.int .i64 (N : Int), .bool hd, .slice A L.length c]] w1 fun e w' => ∃ b, e = .returned (.slice (some ⟨b, 0, none⟩) N N) ∧ Hid (RdLI w' (fun k => w1.heap.size ≤ k) (some ⟨b, 0, none⟩) (endRows (frs L) N L.length)) ∧ Below w1.heap.size w1 w' :=
    fun w1 hb => leaving_calls N hd c (hA.fr (Fr.of_below (S := NoB) hb) (fun _ _ h => h)) hL hN hc hv
  have hcm : ∀ w1 : World, Below w.heap.size w w1 → Calls Try.prog 126 #[.agg #[.int .i64 (N : Int), .bool hd, .slice A L.length c]] w1 fun e w' => ∃ b, e = .returned (.slice (some ⟨b, 0, none⟩) N N) ∧ Hid (RdLI w' (fun k => w1.heap.size ≤ k) (some ⟨b, 0, none⟩) (endRows (tos L) N L.length)) ∧ Below w1.heap.size w1 w' :=
    fun w1 hb => coming_calls N hd c (hA.fr (Fr.of_below (S := NoB) hb) (fun _ _ h => h)) hL hN hc hv2
  have HLV := Lib.hid hlv
  have HCM := Lib.hid hcm
  clear hA hv hv2 hlv hcm
  obtain ⟨i0, hi0, hzz⟩ := Option.map_eq_some_iff.1 info102
  simp only [Prod.mk.injEq] at hzz
  have HI0 := Lib.hid hi0
  have HZ0 := Lib.hid hzz
  clear hi0 hzz
  go_enter Try.func109, Try.ntmps109
  go_wp2
  go_cut [5] (fun p wc => ∃ bx bt, p = .pointer (some ⟨bx, 0, none⟩) ∧ AtI w wc N hd (.slice A L.length c) (.slice F1 f1 f2) bx bt (w.heap.size + 4) (List.replicate N (.slice none 0 0)) (List.replicate N []))
  case first =>
    go_region
    · go_wp2_with fail
      go_meet
      case rel => exact ⟨_, _, rfl, AtI.new1 _ _ _ _ _⟩
    · go_wp2_with fail
      go_meet
      case rel => exact ⟨_, _, rfl, AtI.new2 _ _ _ _ _⟩
  case rest =>
    obtain ⟨bx, bt, rfl, hI⟩ := hcut
    have HI := Lib.hid hI
    clear hI
    have mk : ∀ w', Below wc.heap.size wc w' → (w'.cell? ⟨w.heap.size, 0, none⟩ = some (.int .i64 (N : Int)) ∧ w'.cell? ⟨w.heap.size, 1, none⟩ = some (.bool hd) ∧ w'.cell? ⟨w.heap.size, 2, none⟩ = some (.slice A L.length c) ∧ Hid (Below wc.heap.size wc w')) :=
      fun w' h => ⟨cell_kept h (HI.out.box.cell 0 rfl), cell_kept h (HI.out.box.cell 1 rfl), cell_kept h (HI.out.box.cell 2 rfl), h⟩
    have MK := Lib.hid mk
    clear mk
    go_wp2_with fail
    go_cut [6, 7] (fun o i wd => ∃ bo bi B, o = .slice (some ⟨bo, 0, none⟩) N N ∧ i = .slice (some ⟨bi, 0, none⟩) N N ∧ RdLI wd (fun k => w.heap.size + 4 ≤ k ∧ k < B) (some ⟨bo, 0, none⟩) (endRows (frs L) N L.length) ∧ RdLI wd (fun k => w.heap.size + 4 ≤ k ∧ k < B) (some ⟨bi, 0, none⟩) (endRows (tos L) N L.length) ∧ AtI w wd N hd (.slice A L.length c) (.slice F1 f1 f2) bx bt B (List.replicate N (.slice none 0 0)) (List.replicate N []))
    case first =>
      go_region_held3 (fun w' => w'.cell? ⟨w.heap.size, 0, none⟩ = some (.int .i64 (N : Int)) ∧ w'.cell? ⟨w.heap.size, 1, none⟩ = some (.bool hd) ∧ w'.cell? ⟨w.heap.size, 2, none⟩ = some (.slice A L.length c) ∧ Hid (Below wc.heap.size wc w')) (first | exact MK.out _ (Below.refl _ _).drew | exact MK.out _ (kb1 hbo) | exact MK.out _ (kb1 hbi) | exact MK.out _ (below_then' (kb1 hbi) hbo) | exact MK.out _ (below_then' (kb1 hbo) hbi))
        (first | (go_at_call 125; refine (HLV.out _ (by first | exact below_then' HI.out.below (Below.refl _ _).drew | exact below_then' HI.out.below (kb1 hbi))).mono ?_; rintro e w1 ⟨bo, rfl, hro, hbo⟩) | (go_at_call 126; refine (HCM.out _ (by first | exact below_then' HI.out.below (Below.refl _ _).drew | exact below_then' HI.out.below (kb1 hbo))).mono ?_; rintro e w1 ⟨bi, rfl, hri, hbi⟩))
      all_goals go_wp2_with fail
      all_goals go_meet
      case rel => exact ⟨bo, bi, _, rfl, rfl, RdLI.new hro.out (Nat.le_trans HI.out.hi.1 HI.out.hi.2) hbi hbi.size, RdLI.new hri.out (Nat.le_trans (Nat.le_trans HI.out.hi.1 HI.out.hi.2) (kb1 hbo).size) (Below.refl _ _) (Nat.le_refl _), (HI.out.step (below_then' (kb1 hbo) hbi)).rebase⟩
    case rest =>
      obtain ⟨bo, bi, B, rfl, rfl, hro, hri, hJ⟩ := hcut
      clear MK HI
      obtain ⟨wd, rfl⟩ : ∃ wd : World, wd = wc := ⟨_, rfl⟩
      have x0 := hJ.box.cell 0 rfl
      have HRO := Lib.hid hro
      have HRI := Lib.hid hri
      have HJ := Lib.hid hJ
      clear hro hri hJ
      go_wp2_with fail
      go_loopw [26] (fun i wr => ∃ (v : Nat) (vs : List Value) (R : List (List Stp)), v ≤ N ∧ i = .int .i64 v ∧ Hid (AtI w wr N hd (.slice A L.length c) (.slice F1 f1 f2) bx bt B vs R) ∧ Hid (AtR L N v R) ∧ Hid (Fr (AtS bt B) wd wr)) (fun i _ => N - (intOf i).toNat)
      case atStart => exact ⟨0, _, _, Nat.zero_le _, rfl, HJ, ⟨fun u hu => absurd hu (by omega), fun u _ => by simp [gr, List.getD_eq_getElem?_getD, List.getElem?_replicate]; split <;> rfl⟩, Fr.refl _ _⟩
      case round =>
        obtain ⟨v, vs, R, hv, rfl, hI, hR, hF⟩ := hrel
        clear x0
        by_cases hlt : v < N
        · have hne : ∀ k, w.heap.size + 4 ≤ k ∧ k < B → ¬ AtS bt B k := by
            have := HJ.out.lo2
            intro k hk hs
            rcases hs with hs | hs <;> omega
          obtain ⟨b1, o1, A1, c1, e1, _, g1, gl1, gr1⟩ := HRO.out v (by rw [endRows_len]; exact hlt)
          cases e1
          rw [endRows_get _ _ _ _ hlt] at g1 gl1 gr1
          rw [Nat.zero_add] at g1
          obtain ⟨b2, o2, A2, c2, e2, _, g2, gl2, gr2⟩ := HRI.out v (by rw [endRows_len]; exact hlt)
          cases e2
          rw [endRows_get _ _ _ _ hlt] at g2 gl2 gr2
          rw [Nat.zero_add] at g2
          have hbo1 : ¬ AtS bt B bo := hne _ ‹_ ∧ bo < B›
          have hbi1 : ¬ AtS bt B bi := hne _ ‹_ ∧ bi < B›
          have g1' := hF.out.at (p := ⟨bo, v, none⟩) g1 hbo1
          have bl1 := World.block_lt_of_cell? _ _ g1'
          have hl1 := endsTo_len (frs L) L.length v
          have hl2 := endsTo_len (tos L) L.length v
          have GR1 := Lib.hid gr1
          have GR2 := Lib.hid gr2
          have G2 := Lib.hid g2
          have HNE := Lib.hid hne
          clear gr1 gr2 g2 hne g1
          obtain ⟨xs, hxs⟩ : ∃ xs, endsTo (frs L) L.length v = xs := ⟨_, rfl⟩
          rw [hxs] at g1' hl1 gl1 GR1
          have HXS := Lib.hid hxs
          clear hxs
          obtain ⟨wo, rfl⟩ : ∃ wo : World, wo = wr := ⟨_, rfl⟩
          go_wp2_with fail
          go_loopw [34] (fun i wi => ∃ (j : Nat) (vs2 : List Value), j ≤ xs.length ∧ i = .int .i64 j ∧ Hid (AtI w wi N hd (.slice A L.length c) (.slice F1 f1 f2) bx bt B vs2 (R.set v ([] ++ (xs.take j).map fwd))) ∧ Hid (Fr (AtS bt B) wd wi)) (fun i _ => xs.length - (intOf i).toNat)
          case atStart => exact ⟨0, vs, Nat.zero_le _, rfl, by rw [List.take_zero, List.map_nil, List.append_nil, ← hR.out.todo v (Nat.le_refl _), set_gr]; exact hI, hF⟩
          case round =>
            obtain ⟨j, vs2, hj, rfl, hK, hG⟩ := hrel
            by_cases hjl : j < xs.length
            · obtain ⟨b3, o3, rfl, hb3, a0⟩ := (GR1.out.fr hG.out HNE.out) j hjl
              have bl3 := World.block_lt_of_cell? _ _ a0
              obtain ⟨x, hx, hxL⟩ : ∃ x : Nat, xs[j] = (x : Int) ∧ x < L.length := by
                have hXS := HXS.out
                subst hXS
                exact endsTo_nat _ _ _ hjl
              have k4 := hK.out.sk.cell 4 rfl
              have kx := hK.out.sk.lt
              have kt := hK.out.top.lt
              have kf := hK.out.top.free v
              have hown := hK.out.rows.own v (by rw [hK.out.len]; exact hlt)
              have kv := hK.out.cellv hlt
              have GK : Hid (∀ w1, ((wr.alloc (.cells #[.int .i64 (x : Int), .bool false] 102)).drew).grownBy w1 (gv vs2 v).ownBlock → w1.cell? ⟨bt, v, none⟩ = some (gv vs2 v) ∧ w1.frozen? ⟨bt, v, none⟩ = false ∧ bt < w1.heap.size ∧ w1.cell? ⟨bx, 4, none⟩ = some (.slice (some ⟨bt, 0, none⟩) N N) ∧ bx < w1.heap.size) :=
                fun w1 hg => (hK.out.step one_new_d).grown hlt hg
              obtain ⟨v0, hv0⟩ : ∃ v0, gv vs2 v = v0 := ⟨_, rfl⟩
              obtain ⟨n0, hn0⟩ : ∃ n0, (gr (R.set v ([] ++ (xs.take j).map fwd)) v).length = n0 := ⟨_, rfl⟩
              have FIN := Lib.hid (hK.out.loopStep hG.out hlt hjl (b := false) (x := x) (by simp [enc2, fwd, hx]) hn0 hv0)
              have hn1 : n0 ≤ 200 := by
                have hRl : v < R.length := by have := hK.out.len; rw [List.length_set] at this; omega
                rw [gr_set_self hRl] at hn0
                simp at hn0
                omega
              rw [hv0] at kv hown GK
              rw [hn0] at hown
              obtain ⟨A0, c0, e0, hnc, _⟩ := own_shape hown
              subst e0
              have i1 : (0 : Int) ≤ (v : Int) := by omega
              have i2 : (v : Int) < (N : Int) := by omega
              have kB := hK.out.hi.2
              have HOW := Lib.hid hown
              have HV0 := Lib.hid hv0
              have HN0 := Lib.hid hn0
              clear hown hv0 hn0 hK hG
              go_wp2
              go_region_law (first | (refine step_append_lies _ (by rfl) (.tmp 45) (.tmp 48) 56 (by rfl) B 102 i0 _ 2 16 Try.underlying56 HI0.out HZ0.out.1 HZ0.out.2.1 HZ0.out.2.2 rfl (by omega) _ n0 _ (by rfl) (HOW.out.alloc _) ⟨wr.heap.size, 0, none⟩ 1 1 [.int .i64 (x : Int), .bool false] (by rfl) (by rfl) (World.news_of_block (cs := #[.int .i64 (x : Int), .bool false]) (t := 102) (fr := (0, 0)) (heap_alloc_new wr _)) (by simp [Value.oneCell']) (by omega) (by unfold maxLen; omega) (by omega) (by simp; omega) (wr.heap.size + 1) (by simp) ?_; intro gg cap w1 hown1 hgrow hat hlt1; obtain ⟨y1, y2, y3, y4, y5⟩ := GK.out _ hgrow))
              all_goals
                go_wp2
                go_roundw
                case rel =>
                  obtain ⟨z1, z2⟩ := FIN.out w1 _ hown1 hgrow (by simp only [Value.ownBlock] at hat ⊢; rcases hat with hat | hat; exact .inl hat.symm; exact .inr (by rw [hat]))
                  exact ⟨j + 1, _, by omega, by go_num, z1, z2⟩
                case measure => simp [intOf]; omega
            · have hje : j = xs.length := by omega
              subst hje
              have hK' : AtI w wr N hd (.slice A L.length c) (.slice F1 f1 f2) bx bt B vs2 (R.set v (xs.map fwd ++ (([] : List Int).take 0).map bck)) := by
                have h := hK.out
                rw [List.take_length] at h
                simpa using h
              have g2' := hG.out.at (p := ⟨bi, v, none⟩) G2.out hbi1
              have bl2 := World.block_lt_of_cell? _ _ g2'
              obtain ⟨ys, hys⟩ : ∃ ys, endsTo (tos L) L.length v = ys := ⟨_, rfl⟩
              rw [hys] at g2' hl2 gl2 GR2
              have HYS := Lib.hid hys
              have HK' := Lib.hid hK'
              clear hys hK hK' g1' bl1
              obtain ⟨wp, rfl⟩ : ∃ wp : World, wp = wr := ⟨_, rfl⟩
              go_wp2_with fail
              go_loopw [57] (fun i wi => ∃ (j : Nat) (vs2 : List Value), j ≤ ys.length ∧ i = .int .i64 j ∧ Hid (AtI w wi N hd (.slice A L.length c) (.slice F1 f1 f2) bx bt B vs2 (R.set v (xs.map fwd ++ (ys.take j).map bck))) ∧ Hid (Fr (AtS bt B) wd wi)) (fun i _ => ys.length - (intOf i).toNat)
              case atStart => exact ⟨0, vs2, Nat.zero_le _, rfl, HK', hG⟩
              case round =>
                clear hG HK' g2' bl2
                obtain ⟨j, vs2, hj, rfl, hK, hG⟩ := hrel
                by_cases hjl : j < ys.length
                · obtain ⟨b3, o3, rfl, hb3, a0⟩ := (GR2.out.fr hG.out HNE.out) j hjl
                  have bl3 := World.block_lt_of_cell? _ _ a0
                  obtain ⟨x, hx, hxL⟩ : ∃ x : Nat, ys[j] = (x : Int) ∧ x < L.length := by
                    have hYS := HYS.out
                    subst hYS
                    exact endsTo_nat _ _ _ hjl
                  have k4 := hK.out.sk.cell 4 rfl
                  have kx := hK.out.sk.lt
                  have kt := hK.out.top.lt
                  have kf := hK.out.top.free v
                  have hown := hK.out.rows.own v (by rw [hK.out.len]; exact hlt)
                  have kv := hK.out.cellv hlt
                  have GK : Hid (∀ w1, ((wr.alloc (.cells #[.int .i64 (x : Int), .bool true] 102)).drew).grownBy w1 (gv vs2 v).ownBlock → w1.cell? ⟨bt, v, none⟩ = some (gv vs2 v) ∧ w1.frozen? ⟨bt, v, none⟩ = false ∧ bt < w1.heap.size ∧ w1.cell? ⟨bx, 4, none⟩ = some (.slice (some ⟨bt, 0, none⟩) N N) ∧ bx < w1.heap.size) :=
                    fun w1 hg => (hK.out.step one_new_d).grown hlt hg
                  obtain ⟨v0, hv0⟩ : ∃ v0, gv vs2 v = v0 := ⟨_, rfl⟩
                  obtain ⟨n0, hn0⟩ : ∃ n0, (gr (R.set v (xs.map fwd ++ (ys.take j).map bck)) v).length = n0 := ⟨_, rfl⟩
                  have FIN := Lib.hid (hK.out.loopStep hG.out hlt hjl (b := true) (x := x) (by simp [enc2, bck, hx]) hn0 hv0)
                  have hn1 : n0 ≤ 400 := by
                    have hRl : v < R.length := by have := hK.out.len; rw [List.length_set] at this; omega
                    rw [gr_set_self hRl] at hn0
                    simp at hn0
                    omega
                  rw [hv0] at kv hown GK
                  rw [hn0] at hown
                  obtain ⟨A0, c0, e0, hnc, _⟩ := own_shape hown
                  subst e0
                  have i1 : (0 : Int) ≤ (v : Int) := by omega
                  have i2 : (v : Int) < (N : Int) := by omega
                  have kB := hK.out.hi.2
                  have HOW := Lib.hid hown
                  have HV0 := Lib.hid hv0
                  have HN0 := Lib.hid hn0
                  clear hown hv0 hn0 hK hG
                  go_wp2
                  go_region_law (first | (refine step_append_lies _ (by rfl) (.tmp 68) (.tmp 71) 56 (by rfl) B 102 i0 _ 2 16 Try.underlying56 HI0.out HZ0.out.1 HZ0.out.2.1 HZ0.out.2.2 rfl (by omega) _ n0 _ (by rfl) (HOW.out.alloc _) ⟨wr.heap.size, 0, none⟩ 1 1 [.int .i64 (x : Int), .bool true] (by rfl) (by rfl) (World.news_of_block (cs := #[.int .i64 (x : Int), .bool true]) (t := 102) (fr := (0, 0)) (heap_alloc_new wr _)) (by simp [Value.oneCell']) (by omega) (by unfold maxLen; omega) (by omega) (by simp; omega) (wr.heap.size + 1) (by simp) ?_; intro gg cap w1 hown1 hgrow hat hlt1; obtain ⟨y1, y2, y3, y4, y5⟩ := GK.out _ hgrow))
                  all_goals
                    go_wp2
                    go_roundw
                    case rel =>
                      obtain ⟨z1, z2⟩ := FIN.out w1 _ hown1 hgrow (by simp only [Value.ownBlock] at hat ⊢; rcases hat with hat | hat; exact .inl hat.symm; exact .inr (by rw [hat]))
                      exact ⟨j + 1, _, by omega, by go_num, z1, z2⟩
                    case measure => simp [intOf]; omega
                · have hje : j = ys.length := by omega
                  subst hje
                  have hK' : AtI w wr N hd (.slice A L.length c) (.slice F1 f1 f2) bx bt B vs2 (R.set v (xs.map fwd ++ ys.map bck)) := by
                    have h := hK.out
                    rwa [List.take_length] at h
                  have hRl : v < R.length := by have := hK'.len; rw [List.length_set] at this; omega
                  have k4 := hK'.sk.cell 4 rfl
                  have kx := hK'.sk.lt
                  have kt := hK'.top.lt
                  have kv := hK'.cellv hlt
                  have hown := hK'.rows.own v (by rw [List.length_set]; exact hRl)
                  have hgr : gr (R.set v (xs.map fwd ++ ys.map bck)) v = stepsOf L v := by rw [gr_set_self hRl, ← HXS.out, ← HYS.out]; rfl
                  have hbd : ∀ s, s ∈ gr (R.set v (xs.map fwd ++ ys.map bck)) v → s.arc < 1000 := by
                    rw [hgr]
                    intro s hs
                    have := stepsOf_arc hs
                    omega
                  have hbl : (gr (R.set v (xs.map fwd ++ ys.map bck)) v).length ≤ 1000 := by
                    rw [gr_set_self hRl]
                    simp
                    omega
                  have HFR := hG
                  clear hG hK
                  rcases own_stb hown with ⟨hn, hvn⟩ | ⟨g, cc, tl, hvg, hbg, hS⟩
                  · rw [hvn] at kv
                    have hnext : AtR L N (v + 1) (R.set v (xs.map fwd ++ ys.map bck)) := by
                      refine hR.out.next hRl ?_
                      rw [← gr_set_self hRl (xs.map fwd ++ ys.map bck), hgr]
                    have HN := Lib.hid hnext
                    have HK := Lib.hid hK'
                    clear hnext hK' hn hvn hgr hown hbd hbl
                    go_wp2_with (first | (go_at_call 127; refine (sort_nil _ _ _ _).mono ?_; rintro e w' ⟨rfl, rfl⟩))
                    go_roundw
                    case rel => exact ⟨v + 1, vs2, _, by omega, by go_num, HK, HN, HFR⟩
                    case measure => simp [intOf]; omega
                  · rw [hvg] at kv
                    have hsort := sort_calls cc hS hbl hbd
                    have hnext : ∀ w', Pm wr w' g (gr (R.set v (xs.map fwd ++ ys.map bck)) v) tl → ∃ R', Hid (AtI w w' N hd (.slice A L.length c) (.slice F1 f1 f2) bx bt B vs2 R') ∧ Hid (AtR L N (v + 1) R') ∧ Hid (Fr (AtS bt B) wd w') := by
                      intro w' hq
                      obtain ⟨l', hp, h1, h2⟩ := hK'.sorted hlt hvg hbg hS hq
                      rw [List.set_set] at h1
                      exact ⟨_, h1, hR.out.next hRl (by rw [← hgr]; exact hp), HFR.out.trans h2⟩
                    have HS := Lib.hid hsort
                    have HN := Lib.hid hnext
                    clear hnext hsort hK' hgr hown hbd hbl hS hvg
                    go_wp2_with (first | (go_at_call 127; refine (HS.out).mono ?_; rintro e w1 ⟨rfl, hq⟩))
                    obtain ⟨R', z1, z2, z3⟩ := HN.out _ hq
                    clear hq
                    go_roundw
                    case rel => exact ⟨v + 1, vs2, R', by omega, by go_num, z1, z2, z3⟩
                    case measure => simp [intOf]; omega
        · have x0 := hI.out.sk.cell 0 rfl
          have x1 := hI.out.sk.cell 1 rfl
          have x2 := hI.out.sk.cell 2 rfl
          have x3 := hI.out.sk.cell 3 rfl
          have x4 := hI.out.sk.cell 4 rfl
          have xl := hI.out.sk.lt
          have r0 := hI.out.res.cell 0 rfl
          have r1 := hI.out.res.cell 1 rfl
          have r2 := hI.out.res.cell 2 rfl
          have r3 := hI.out.res.cell 3 rfl
          have r4 := hI.out.res.cell 4 rfl
          have q0 := hI.out.res.free 0
          have q1 := hI.out.res.free 1
          have q2 := hI.out.res.free 2
          have q3 := hI.out.res.free 3
          have q4 := hI.out.res.free 4
          have rl := hI.out.res.lt
          have hfin : RdAt wr (fun k => w.heap.size + 2 ≤ k) (some ⟨bt, 0, none⟩) L N R := by
            have h2 := HJ.out.lo2
            have h3 := HJ.out.hi
            exact ⟨hI.out.len, fun u hu => hR.done u (by omega), (hI.out.rows.rdLS hI.out.top (by omega)).mono fun k _ hk => by omega⟩
          have HFIN := Lib.hid hfin
          have HBE := Lib.hid hI.out.below
          clear hfin
          have HB5 := Lib.hid (((((hI.out.res.set 0 (.int .i64 (N : Int))).set 1 (.bool hd)).set 2 (.slice A L.length c)).set 3 (.slice F1 f1 f2)).set 4 (.slice (some ⟨bt, 0, none⟩) N N))
          have HF5 := Lib.hid ((((((Fr.refl (OneB (w.heap.size + 1)) wr).setCell (p := ⟨w.heap.size + 1, 0, none⟩) (.inl rfl) (.int .i64 (N : Int))).setCell (p := ⟨w.heap.size + 1, 1, none⟩) (.inl rfl) (.bool hd)).setCell (p := ⟨w.heap.size + 1, 2, none⟩) (.inl rfl) (.slice A L.length c)).setCell (p := ⟨w.heap.size + 1, 3, none⟩) (.inl rfl) (.slice F1 f1 f2)).setCell (p := ⟨w.heap.size + 1, 4, none⟩) (.inl rfl) (.slice (some ⟨bt, 0, none⟩) N N))
          go_wp2
          have H5 := HB5.out
          have F5 := HF5.out
          have c0 := H5.cell 0 rfl
          have c1 := H5.cell 1 rfl
          have c2 := H5.cell 2 rfl
          have c3 := H5.cell 3 rfl
          have c4 := H5.cell 4 rfl
          refine bodyPost_ret (v := .agg #[.int .i64 (N : Int), .bool hd, .slice A L.length c, .slice F1 f1 f2, .slice (some ⟨bt, 0, none⟩) N N]) ?_ rfl ?_
          · simp only [results, Try.results109]
            simp [go_sem, c0, c1, c2, c3, c4]
          · refine ⟨bt, R, rfl, (HFIN.out.fr F5 fun k hk hs => ?_).mono fun k _ hk => by omega, (HBE.out).trans (F5.below ?_ fun k hk hs => ?_)⟩
            · have : k = w.heap.size + 1 := hs
              omega
            · exact HBE.out.size
            · have : k = w.heap.size + 1 := hs
              omega

end Go.Proofs.Ythbffhlfdjpfaaa
