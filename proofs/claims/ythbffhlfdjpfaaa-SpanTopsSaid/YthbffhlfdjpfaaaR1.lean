/- The document's words on networks, ends, horizons and flows: the same numbers of errors. -/
import Derived.Test.YthbffhlfdjpfaaaW22
namespace Go.Proofs.Ythbffhlfdjpfaaa
set_option linter.unusedVariables false
set_option linter.unusedSimpArgs false
open Go.RowKit

set_option maxHeartbeats 400000 in
theorem rnodes_calls (w : World) (t : Int) : Calls Try.prog 84 #[.int .i64 t] w fun e w' => e = .returned (.int .i64 (nodesE t)) ∧ Below w.heap.size w w' := by
  unfold nodesE
  by_cases h1 : t < 1
  · rw [if_pos h1]
    go_enter Try.func84, Try.ntmps84
    go_wp2
    go_ret
    exact ⟨rfl, Below.refl _ _⟩
  · rw [if_neg h1]
    by_cases h2 : 50 < t
    · rw [if_pos h2]
      go_enter Try.func84, Try.ntmps84
      go_wp2
      go_ret
      exact ⟨rfl, Below.refl _ _⟩
    · rw [if_neg h2]
      go_enter Try.func84, Try.ntmps84
      go_wp2
      go_ret
      exact ⟨rfl, Below.refl _ _⟩

set_option maxHeartbeats 400000 in
theorem rspan_calls (w : World) (t : Int) : Calls Try.prog 72 #[.int .i64 t] w fun e w' => e = .returned (.int .i64 (horE t)) ∧ Below w.heap.size w w' := by
  unfold horE
  by_cases h1 : t < 0
  · rw [if_pos h1]
    go_enter Try.func72, Try.ntmps72
    go_wp2
    go_ret
    exact ⟨rfl, Below.refl _ _⟩
  · rw [if_neg h1]
    by_cases h2 : 1024 < t
    · rw [if_pos h2]
      go_enter Try.func72, Try.ntmps72
      go_wp2
      go_ret
      exact ⟨rfl, Below.refl _ _⟩
    · rw [if_neg h2]
      go_enter Try.func72, Try.ntmps72
      go_wp2
      go_ret
      exact ⟨rfl, Below.refl _ _⟩

set_option maxRecDepth 10000 in
set_option maxHeartbeats 1000000 in
theorem rarc_calls (w : World) (n : Int) (a : Arc) : Calls Try.prog 85 #[.int .i64 n, .agg #[.int .i64 a.fr, .int .i64 a.to, .int .i64 a.cap, .int .i64 a.tm]] w fun e w' => e = .returned (.int .i64 (arcE n a)) ∧ Below w.heap.size w w' := by
  obtain ⟨x, y, z, v⟩ := a
  by_cases h1 : x < 0
  · go_enter Try.func85, Try.ntmps85
    go_wp2
    go_ret
    exact ⟨ret_int (by simp only [arcE]; rw [if_pos (by omega)]), one_new⟩
  · by_cases h2 : n ≤ x
    · go_enter Try.func85, Try.ntmps85
      go_wp2
      go_ret
      exact ⟨ret_int (by simp only [arcE]; rw [if_pos (by omega)]), one_new⟩
    · by_cases h3 : y < 0
      · go_enter Try.func85, Try.ntmps85
        go_wp2
        go_ret
        exact ⟨ret_int (by simp only [arcE]; rw [if_pos (by omega)]), one_new⟩
      · by_cases h4 : n ≤ y
        · go_enter Try.func85, Try.ntmps85
          go_wp2
          go_ret
          exact ⟨ret_int (by simp only [arcE]; rw [if_pos (by omega)]), one_new⟩
        · by_cases h5 : z < 0
          · go_enter Try.func85, Try.ntmps85
            go_wp2
            go_ret
            exact ⟨ret_int (by simp only [arcE]; rw [if_pos (by omega)]), one_new⟩
          · by_cases h6 : v < 0
            · go_enter Try.func85, Try.ntmps85
              go_wp2
              go_ret
              exact ⟨ret_int (by simp only [arcE]; rw [if_pos (by omega)]), one_new⟩
            · by_cases h7 : 1048576 < z
              · go_enter Try.func85, Try.ntmps85
                go_wp2
                go_ret
                exact ⟨ret_int (by simp only [arcE]; rw [if_neg (by omega), if_pos (by omega)]), one_new⟩
              · by_cases h8 : 1048576 < v
                · go_enter Try.func85, Try.ntmps85
                  go_wp2
                  go_ret
                  exact ⟨ret_int (by simp only [arcE]; rw [if_neg (by omega), if_pos (by omega)]), one_new⟩
                · go_enter Try.func85, Try.ntmps85
                  go_wp2
                  go_ret
                  exact ⟨ret_int (by simp only [arcE]; rw [if_neg (by omega), if_neg (by omega)]), one_new⟩

set_option maxRecDepth 10000 in
set_option maxHeartbeats 1000000 in
theorem rcheck_calls {w : World} {ok : Nat → Prop} {A : Option Addr} {L : List Arc} (nd : Int) (hd : Bool) (c : Nat) (hA : RdA w ok A L) (hL : L.length ≤ 281474976710656) :
    Calls Try.prog 45 #[.agg #[.int .i64 nd, .bool hd, .slice A L.length c]] w fun e w' => e = .returned (.int .i64 (netE nd L)) ∧ Below w.heap.size w w' := by
  have HA := Lib.hid hA
  clear hA
  have HND := Lib.hid (fun w => rnodes_calls w nd)
  go_enter Try.func45, Try.ntmps45
  obtain ⟨k, hk⟩ : ∃ k, nodesE nd = k := ⟨_, rfl⟩
  have HK := Lib.hid hk
  have HBX := Lib.hid (Blk.new w [.int .i64 nd, .bool hd, .slice A L.length c] 24)
  clear hk
  go_wp2_with fail
  refine (HND.out _).mono ?_
  rintro e w1 ⟨rfl, hb1⟩
  rw [HK.out]
  have hq := HBX.out.below hb1
  have x0 := hq.cell 0 rfl
  have x1 := hq.cell 1 rfl
  have x2 := hq.cell 2 rfl
  have xl := hq.lt
  have HQ := Lib.hid hq
  have HBW := Lib.hid ((one_new (w := w)).trans (hb1.mono (by simp)))
  clear hb1 hq
  by_cases h1 : k = 0
  · subst h1
    by_cases h2 : 200 < L.length
    · go_wp2
      go_ret
      refine ⟨ret_int ?_, HBW.out⟩
      rw [netE, if_neg (by rw [HK.out]; simp), if_pos h2]
    · have e0 : netE nd L = arcsE nd L := by rw [netE, if_neg (by rw [HK.out]; simp), if_neg h2]
      have E0 := Lib.hid e0
      clear e0
      go_wp2
      go_loopw [4] (fun i wr => ∃ j : Nat, j ≤ L.length ∧ i = .int .i64 j ∧ Hid (arcsE nd (L.drop j) = arcsE nd L) ∧ Hid (Below w.heap.size w wr) ∧ Hid (Blk wr w.heap.size 24 [.int .i64 nd, .bool hd, .slice A L.length c])) (fun i _ => L.length - (intOf i).toNat)
      case atStart => exact ⟨0, Nat.zero_le _, rfl, rfl, HBW.out, HQ.out⟩
      case round =>
        obtain ⟨j, hj, rfl, hd', hB, hX⟩ := hrel
        have z0 := hX.out.cell 0 rfl
        have z1 := hX.out.cell 1 rfl
        have z2 := hX.out.cell 2 rfl
        have zl := hX.out.lt
        by_cases hlt : j < L.length
        · obtain ⟨b, off, rfl, _, a0, a1, a2, a3⟩ := HA.out j hlt
          have a0' := cell_kept hB.out a0
          have a1' := cell_kept hB.out a1
          have a2' := cell_kept hB.out a2
          have a3' := cell_kept hB.out a3
          have bl := World.block_lt_of_cell? _ _ a0'
          have hac := fun w => rarc_calls w nd ⟨frs L j, tos L j, caps L j, tms L j⟩
          obtain ⟨q, hq⟩ : ∃ q, arcE nd ⟨frs L j, tos L j, caps L j, tms L j⟩ = q := ⟨_, rfl⟩
          have hd2 : (if q ≠ 0 then q else arcsE nd (L.drop (j + 1))) = arcsE nd L := by rw [← hd'.out, drop_arc L j hlt, arcsE, hq]
          rw [hq] at hac
          have HAC := Lib.hid hac
          have HD2 := Lib.hid hd2
          have mk : ∀ W, Below wr.heap.size wr W → (W.cell? ⟨w.heap.size, 0, none⟩ = some (.int .i64 nd) ∧ W.cell? ⟨w.heap.size, 2, none⟩ = some (.slice (some ⟨b, off, none⟩) L.length c) ∧ W.cell? ⟨b, off + j * 4, none⟩ = some (.int .i64 (frs L j)) ∧ W.cell? ⟨b, off + j * 4 + 1, none⟩ = some (.int .i64 (tos L j)) ∧ W.cell? ⟨b, off + j * 4 + 2, none⟩ = some (.int .i64 (caps L j)) ∧ W.cell? ⟨b, off + j * 4 + 3, none⟩ = some (.int .i64 (tms L j))) :=
            fun W hb => ⟨cell_kept hb z0, cell_kept hb z2, cell_kept hb a0', cell_kept hb a1', cell_kept hb a2', cell_kept hb a3'⟩
          have MK := Lib.hid mk
          clear hac hq hd2 a0 a1 a2 a3 mk
          go_wp2
          go_region_held3 (fun W => W.cell? ⟨w.heap.size, 0, none⟩ = some (.int .i64 nd) ∧ W.cell? ⟨w.heap.size, 2, none⟩ = some (.slice (some ⟨b, off, none⟩) L.length c) ∧ W.cell? ⟨b, off + j * 4, none⟩ = some (.int .i64 (frs L j)) ∧ W.cell? ⟨b, off + j * 4 + 1, none⟩ = some (.int .i64 (tos L j)) ∧ W.cell? ⟨b, off + j * 4 + 2, none⟩ = some (.int .i64 (caps L j)) ∧ W.cell? ⟨b, off + j * 4 + 3, none⟩ = some (.int .i64 (tms L j)))
            (first | exact MK.out _ (Below.refl _ _).drew | exact MK.out _ (kb1 hb2)) (first | (go_at_call 85; refine (HAC.out _).mono ?_; rintro e w2 ⟨rfl, hb2⟩))
          replace hb2 := kb1 hb2
          have HB2 := Lib.hid (below_then' hB.out hb2)
          have HX2 := Lib.hid (hX.out.below hb2)
          clear hb2
          by_cases h0 : q = 0
          · subst h0
            have HD := Lib.hid (show arcsE nd (L.drop (j + 1)) = arcsE nd L by simpa using HD2.out)
            go_wp2
            go_roundw
            case rel => exact ⟨j + 1, by omega, by go_num, HD, HB2, HX2⟩
            case measure => simp [intOf]; omega
          · have HD := Lib.hid (show arcsE nd L = q by rw [← HD2.out, if_pos h0])
            have e1 : (q != 0) = true := by simp [h0]
            go_wp2
            go_ret
            refine ⟨ret_int ?_, HB2.out⟩
            rw [E0.out, HD.out]
        · have hj2 : j = L.length := by omega
          subst hj2
          go_wp2
          go_ret
          refine ⟨ret_int ?_, hB.out⟩
          rw [E0.out, ← hd'.out, List.drop_length]
          rfl
  · have e1 : (k != 0) = true := by simp [h1]
    go_wp2
    go_ret
    refine ⟨ret_int ?_, HBW.out⟩
    rw [netE, if_pos (by rw [HK.out]; exact h1), HK.out]

set_option maxHeartbeats 400000 in
theorem rnode_calls (w : World) (nd : Int) (hd : Bool) (V : Value) (v : Int) : Calls Try.prog 81 #[.agg #[.int .i64 nd, .bool hd, V], .int .i64 v] w fun e w' => e = .returned (.bool (decide (0 ≤ v) && decide (v < nd))) ∧ Below w.heap.size w w' := by
  by_cases h1 : 0 ≤ v
  · by_cases h2 : v < nd
    · go_enter Try.func81, Try.ntmps81
      go_wp2
      go_ret
      exact ⟨by simp [h1, h2], one_new⟩
    · go_enter Try.func81, Try.ntmps81
      go_wp2
      go_ret
      exact ⟨by simp [h1, h2], one_new⟩
  · go_enter Try.func81, Try.ntmps81
    go_wp2
    go_ret
    exact ⟨by simp; omega, one_new⟩

def ndB (nd v : Int) : Bool := decide (0 ≤ v) && decide (v < nd)
theorem ndB_iff {nd v : Int} : ndB nd v = true ↔ 0 ≤ v ∧ v < nd := by simp [ndB]

set_option maxRecDepth 10000 in
set_option maxHeartbeats 1000000 in
theorem rends_calls {w : World} {ok : Nat → Prop} {A : Option Addr} {L : List Arc} (nd : Int) (hd : Bool) (c : Nat) (s t : Int) (hA : RdA w ok A L) (hL : L.length ≤ 281474976710656) :
    Calls Try.prog 42 #[.agg #[.int .i64 nd, .bool hd, .slice A L.length c], .int .i64 s, .int .i64 t] w fun e w' => e = .returned (.int .i64 (endsE nd L s t)) ∧ Below w.heap.size w w' := by
  have hc := fun w1 (hb : Below w.heap.size w w1) => rcheck_calls nd hd c (hA.fr (Fr.of_below (S := NoB) hb) (fun _ _ h => h)) hL
  obtain ⟨k, hk⟩ : ∃ k, netE nd L = k := ⟨_, rfl⟩
  simp only [hk] at hc
  have HC := Lib.hid hc
  have HK := Lib.hid hk
  have hn := fun (w : World) v => rnode_calls w nd hd (.slice A L.length c) v
  clear hc hk hA
  have HBX := Lib.hid (Blk.new w [.int .i64 nd, .bool hd, .slice A L.length c] 24)
  obtain ⟨bs, hbs⟩ : ∃ b, (decide (0 ≤ s) && decide (s < nd)) = b := ⟨_, rfl⟩
  obtain ⟨bt, hbt⟩ : ∃ b, (decide (0 ≤ t) && decide (t < nd)) = b := ⟨_, rfl⟩
  have hns := fun w => hn w s
  have hnt := fun w => hn w t
  simp only [hbs] at hns
  simp only [hbt] at hnt
  have HNS := Lib.hid hns
  have HNT := Lib.hid hnt
  have HBS := Lib.hid hbs
  have HBT := Lib.hid hbt
  clear hn hns hnt hbs hbt
  go_enter Try.func42, Try.ntmps42
  go_wp2_with fail
  refine (HC.out _ one_new).mono ?_
  rintro e w1 ⟨rfl, hb1⟩
  have hq := HBX.out.below hb1
  have x0 := hq.cell 0 rfl
  have x1 := hq.cell 1 rfl
  have x2 := hq.cell 2 rfl
  have xl := hq.lt
  have HQ := Lib.hid hq
  have HBW := Lib.hid ((one_new (w := w)).trans (hb1.mono (by simp)))
  clear hb1 hq
  by_cases h0 : k = 0
  · subst h0
    cases bs
    · go_wp2_with fail
      refine (HNS.out _).mono ?_
      rintro e w2 ⟨rfl, hb2⟩
      have HB2 := Lib.hid (below_then' HBW.out hb2)
      clear hb2
      go_wp2
      go_ret
      refine ⟨ret_int ?_, HB2.out⟩
      have h := HBS.out
      simp at h
      rw [endsE, if_neg (by rw [HK.out]; simp), if_pos (by omega)]
    · go_wp2_with fail
      refine (HNS.out _).mono ?_
      rintro e w2 ⟨rfl, hb2⟩
      have HB2 := Lib.hid (below_then' HBW.out hb2)
      have hq2 := HQ.out.below hb2
      have x0 := hq2.cell 0 rfl
      have x1 := hq2.cell 1 rfl
      have x2 := hq2.cell 2 rfl
      have xl := hq2.lt
      clear hb2 hq2
      cases bt
      · go_wp2_with fail
        refine (HNT.out _).mono ?_
        rintro e w3 ⟨rfl, hb3⟩
        have HB3 := Lib.hid (below_then' HB2.out hb3)
        clear hb3
        go_wp2
        go_ret
        refine ⟨ret_int ?_, HB3.out⟩
        have h := HBT.out
        simp at h
        rw [endsE, if_neg (by rw [HK.out]; simp), if_pos (by omega)]
      · go_wp2_with fail
        refine (HNT.out _).mono ?_
        rintro e w3 ⟨rfl, hb3⟩
        have HB3 := Lib.hid (below_then' HB2.out hb3)
        clear hb3
        by_cases hst : s = t
        · have e1 : (s == t) = true := by simp [hst]
          have HE := Lib.hid hst
          clear hst
          go_wp2
          go_ret
          refine ⟨ret_int ?_, HB3.out⟩
          rw [endsE, if_neg (by rw [HK.out]; simp), if_pos (.inr (.inr HE.out))]
        · have e1 : (s == t) = false := by simp [hst]
          go_wp2
          go_ret
          refine ⟨ret_int ?_, HB3.out⟩
          have h := HBT.out
          have h2 := HBS.out
          simp at h h2
          rw [endsE, if_neg (by rw [HK.out]; simp), if_neg (by omega)]
  · have e1 : (k != 0) = true := by simp [h0]
    go_wp2
    go_ret
    refine ⟨ret_int ?_, HBW.out⟩
    rw [endsE, if_pos (by rw [HK.out]; exact h0), HK.out]

set_option maxRecDepth 10000 in
set_option maxHeartbeats 1000000 in
theorem rasked_calls {w : World} {ok : Nat → Prop} {A : Option Addr} {L : List Arc} (nd : Int) (hd : Bool) (c : Nat) (s t h : Int) (hA : RdA w ok A L) (hL : L.length ≤ 281474976710656) :
    Calls Try.prog 34 #[.agg #[.int .i64 nd, .bool hd, .slice A L.length c], .int .i64 s, .int .i64 t, .int .i64 h] w fun e w' => e = .returned (.int .i64 (askedE nd L s t h)) ∧ Below w.heap.size w w' := by
  have hc := fun w1 (hb : Below w.heap.size w w1) => rends_calls nd hd c s t (hA.fr (Fr.of_below (S := NoB) hb) (fun _ _ h => h)) hL
  obtain ⟨k, hk⟩ : ∃ k, endsE nd L s t = k := ⟨_, rfl⟩
  simp only [hk] at hc
  have HC := Lib.hid hc
  have HK := Lib.hid hk
  have HH := Lib.hid (fun w1 => rspan_calls w1 h)
  clear hc hk hA
  go_enter Try.func34, Try.ntmps34
  go_wp2_with fail
  refine (HC.out _ one_new).mono ?_
  rintro e w1 ⟨rfl, hb1⟩
  have HBW := Lib.hid ((one_new (w := w)).trans (hb1.mono (by simp)))
  clear hb1
  by_cases h0 : k = 0
  · subst h0
    go_wp2_with fail
    refine (HH.out _).mono ?_
    rintro e w2 ⟨rfl, hb2⟩
    go_wp2
    go_ret
    refine ⟨ret_int ?_, HBW.out.trans (hb2.mono HBW.out.size)⟩
    rw [askedE, if_neg (by rw [HK.out]; simp)]
  · have e1 : (k != 0) = true := by simp [h0]
    go_wp2
    go_ret
    refine ⟨ret_int ?_, HBW.out⟩
    rw [askedE, if_pos (by rw [HK.out]; exact h0), HK.out]
end Go.Proofs.Ythbffhlfdjpfaaa
