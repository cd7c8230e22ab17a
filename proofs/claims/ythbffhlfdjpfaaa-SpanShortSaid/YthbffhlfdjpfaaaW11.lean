/- How long it is from a node to each, where no cycle gains. -/
import Derived.Test.YthbffhlfdjpfaaaW10
namespace Go.Proofs.Ythbffhlfdjpfaaa
set_option linter.unusedVariables false
set_option linter.unusedSimpArgs false
open Go.RowKit

theorem BFI.start {L : List Arc} {N : Nat} {f : List Int} {s : Nat} (hs : s < N) (hN : N ≤ 50) : BFI L.length N (frs L) (tos L) (caps L) (fls f) (tms L) (s : Int) (lI (List.replicate N 0)) (lB ((List.replicate N false).set s true)) (lS (List.replicate N default)) := by
  have e1 : lB ((List.replicate N false).set s true) = upd (lB (List.replicate N false)) (s : Int) true := lB_set (by simpa using hs) _
  have e2 : ∀ v, lB (List.replicate N false) v = false := fun v => by
    unfold lB
    split
    · rfl
    · simp [List.getD_eq_getElem?_getD, List.getElem?_replicate]; split <;> rfl
  have e3 : ∀ v, lI (List.replicate N 0) v = 0 := fun v => by
    unfold lI
    split
    · rfl
    · simp [List.getD_eq_getElem?_getD, List.getElem?_replicate]; split <;> rfl
  have e4 : ∀ v, lB ((List.replicate N false).set s true) v = true → v = (s : Int) := by
    intro v hv
    rw [e1] at hv
    by_cases h : v = (s : Int)
    · exact h
    · rw [upd_ne _ h, e2] at hv; cases hv
  have hnd : Nd N (s : Int) := ⟨by omega, by omega⟩
  refine ⟨by rw [e1, upd_self], e3 _, fun v hv => by rw [e4 v hv]; exact hnd, fun v hv hvs => absurd (e4 v hv) hvs, fun v hv => ⟨0, e4 v hv⟩, fun v hv => ?_⟩
  rw [e3, e1, cnt_upd hnd (e2 _)]
  have := sumTo_nonneg (m := N) (g := fun i => if lB (List.replicate N false) (i : Int) then 1 else 0) fun i _ => by split <;> omega
  unfold cnt
  omega

theorem made_pairs (N : Nat) : (madeCells #[.int .i64 0, .bool false] (N * 2)).toList = encS (List.replicate N default) := by
  have hs : ∀ q, q < N → stp (List.replicate N default) q = default := fun q hq => by simp [stp, List.getD_eq_getElem?_getD, List.getElem?_replicate, hq]
  apply List.ext_getElem?
  intro i
  rcases Nat.lt_or_ge i (N * 2) with h | h
  · have hm : (madeCells #[.int .i64 0, .bool false] (N * 2)).toList[i]? = some (if i % 2 = 0 then .int .i64 0 else .bool false) := by
      rw [Array.getElem?_toList]
      simp only [madeCells, Array.getElem?_map]
      rw [Array.getElem?_range]
      simp only [h, if_true, Option.map_some, Option.some.injEq]
      rcases Nat.mod_two_eq_zero_or_one i with e | e <;> simp [e]
    rw [hm]
    rcases Nat.mod_two_eq_zero_or_one i with e | e
    · have e2 : i = i / 2 * 2 := by omega
      have h2 := (encS_get (List.replicate N default) (i / 2) (by simp; omega)).1
      rw [← e2, hs _ (by omega)] at h2
      rw [h2, e]; rfl
    · have e2 : i = i / 2 * 2 + 1 := by omega
      have h2 := (encS_get (List.replicate N default) (i / 2) (by simp; omega)).2
      rw [← e2, hs _ (by omega)] at h2
      rw [h2, e]; rfl
  · rw [List.getElem?_eq_none (by simp [size_madeCells]; omega), List.getElem?_eq_none (by rw [encS_len]; simp; omega)]
theorem mkS (N : Nat) (hN : N ≤ 1000) : ∀ W : World, (Instr.makeSlice 56 (.int .i64 (N : Int)) (.int .i64 (N : Int))).run Try.prog W = .ok (.slice (some ⟨W.heap.size, 0, none⟩) N N) (W.alloc (.cells (madeCells #[.int .i64 0, .bool false] (N * 2)) 102)) := by
  intro W
  obtain ⟨i, hi, hzz⟩ := Option.map_eq_some_iff.1 info102
  simp only [Prod.mk.injEq] at hzz
  obtain ⟨hz, hs, hb⟩ := hzz
  have h := run_make (P := Try.prog) W 56 102 i _ Try.underlying56 hi hz .i64 .i64 (N : Int) (N : Int) (by omega) (Int.le_refl _) (by rw [hb]; omega) (by omega)
  simp only [Int.toNat_natCast, hs] at h
  exact h
theorem Blk.madeS {w : World} {n : Nat} (hn : n = w.heap.size) (N : Nat) : Blk (w.alloc (.cells (madeCells #[.int .i64 0, .bool false] (N * 2)) 102)) n 102 (encS (List.replicate N default)) := by
  subst hn
  rw [← made_pairs]
  have h := Blk.new w (madeCells #[.int .i64 0, .bool false] (N * 2)).toList 102
  simpa using h

def ReachPost (w : World) (L : List Arc) (N : Nat) (f : List Int) (s : Int) (e : Ending) (w' : World) : Prop :=
  ∃ bD bI bB D I B, e = .returned (.tuple #[.agg #[.slice (some ⟨bD, 0, none⟩) N N, .slice (some ⟨bI, 0, none⟩) N N, .slice (some ⟨bB, 0, none⟩) N N], .bool true]) ∧ Blk w' bD 3 (encI D) ∧ Blk w' bI 4 (encB I) ∧ Blk w' bB 102 (encS B) ∧ D.length = N ∧ I.length = N ∧ B.length = N ∧
    BFI L.length N (frs L) (tos L) (caps L) (fls f) (tms L) s (lI D) (lB I) (lS B) ∧ (∀ st, Ok L.length (caps L) (fls f) st → Tt (frs L) (tos L) (tms L) (lI D) (lB I) st) ∧ Below w.heap.size w w' ∧ w.heap.size ≤ bD ∧ w.heap.size ≤ bI ∧ w.heap.size ≤ bB

/-- ahead of the rounds: the boxes, the rows, the three lists -/
structure FmI (w wc : World) (N : Nat) (hd : Bool) (A F T : Value) (bX bR bD bI bB : Nat) : Prop where
  below : Below w.heap.size w wc
  box : Blk wc w.heap.size 24 [.int .i64 (N : Int), .bool hd, A]
  res : Blk wc (w.heap.size + 1) 93 [.slice none 0 0, .slice none 0 0, .slice none 0 0]
  x : Blk wc bX 137 [.int .i64 (N : Int), .bool hd, A, F, T]
  r : Blk wc bR 93 [.slice (some ⟨bD, 0, none⟩) N N, .slice (some ⟨bI, 0, none⟩) N N, .slice (some ⟨bB, 0, none⟩) N N]
  d : Blk wc bD 3 (List.replicate N (.int .i64 0))
  i : Blk wc bI 4 (List.replicate N (.bool false))
  b : Blk wc bB 102 (encS (List.replicate N default))
  lo : w.heap.size + 2 ≤ bX ∧ bX < bR ∧ bX < bD ∧ bX < bI ∧ bX < bB
  ne : bR ≠ bD ∧ bR ≠ bI ∧ bR ≠ bB ∧ bD ≠ bI ∧ bD ≠ bB ∧ bI ≠ bB

theorem FmI.pack {w w1 wc : World} {N : Nat} {hd : Bool} {A F T : Value} {bX bR bD bI bB : Nat} (h1 : Below w.heap.size w w1) (q1 : Blk w1 w.heap.size 24 [.int .i64 (N : Int), .bool hd, A]) (q2 : Blk w1 (w.heap.size + 1) 93 [.slice none 0 0, .slice none 0 0, .slice none 0 0])
    (r : Blk wc bR 93 [.slice (some ⟨bD, 0, none⟩) N N, .slice (some ⟨bI, 0, none⟩) N N, .slice (some ⟨bB, 0, none⟩) N N]) (x : Blk wc bX 137 [.int .i64 (N : Int), .bool hd, A, F, T]) (d : Blk wc bD 3 (List.replicate N (.int .i64 0))) (i : Blk wc bI 4 (List.replicate N (.bool false)))
    (b : Blk wc bB 102 (encS (List.replicate N default))) (hbl : Below w1.heap.size w1 wc) (lo : w.heap.size + 2 ≤ bX ∧ bX < bR ∧ bX < bD ∧ bX < bI ∧ bX < bB) (ne : bR ≠ bD ∧ bR ≠ bI ∧ bR ≠ bB ∧ bD ≠ bI ∧ bD ≠ bB ∧ bI ≠ bB) :
    ∃ bR' bD bI bB, Value.pointer (some ⟨bR, 0, none⟩) = .pointer (some ⟨bR', 0, none⟩) ∧ FmI w wc N hd A F T bX bR' bD bI bB ∧ Below w1.heap.size w1 wc :=
  ⟨bR, bD, bI, bB, rfl, ⟨below_then' h1 hbl, q1.below hbl, q2.below hbl, x, r, d, i, b, lo, ne⟩, hbl⟩

set_option maxRecDepth 10000 in
set_option maxHeartbeats 4000000 in
theorem from2_calls {w : World} {okA okF : Nat → Prop} {A F : Option Addr} {L : List Arc} {N : Nat} {f : List Int} (hd : Bool) (c c' s : Nat) (p : Int → Int) (hN : Net L N f) (hA : RdA w okA A L) (hF : RdI w okF F f) (hc : L.length ≤ c) (hs : s < N)
    (hp : Feas L.length (frs L) (tos L) (caps L) (fls f) (tms L) p) :
    Calls Try.prog 108 #[.agg #[.int .i64 (N : Int), .bool hd, .slice A L.length c], .slice F f.length c', .int .i64 (s : Int)] w (ReachPost w L N f (s : Int)) := by
  have hN0 := hN.n0
  have hN1 := hN.n1
  have hmk1 := mk1 (P := Try.prog) 25 3 (.int .i64 0) 8 Try.underlying25 info3 rfl (by omega) N (by omega)
  have hmk2 := mk1 (P := Try.prog) 39 4 (.bool false) 1 Try.underlying39 info4 rfl (by omega) N (by omega)
  have hmk3 := mkS N (by omega)
  have hat : ∀ w1 : World, Below w.heap.size w w1 → Calls Try.prog 109 #[.agg #[.int .i64 (N : Int), .bool hd, .slice A L.length c], .slice F f.length c'] w1 (AtPost w1 N hd (.slice A L.length c) (.slice F f.length c') L) :=
    fun w1 hb => at_calls N hd c _ (hA.fr (Fr.of_below (S := NoB) hb) (fun _ _ h => h)) hN.len hN1 hc (fun i hi => (hN.ends i hi).1) (fun i hi => (hN.ends i hi).2) F f.length c' rfl
  have HAT := Lib.hid hat
  have HA := Lib.hid hA
  have HF := Lib.hid hF
  have HNet := Lib.hid hN
  have HP := Lib.hid hp
  clear hat hA hF hN hp
  go_enter Try.func108, Try.ntmps108
  go_wp2_with fail
  refine (HAT.out _ two_new).mono ?_
  rintro e w1 ⟨bt, R, rfl, hR, hb1⟩
  have HR := Lib.hid hR
  have HB1 := Lib.hid (below_then' (two_new (w := w) (o1 := .cells #[.int .i64 (N : Int), .bool hd, .slice A L.length c] 24) (o2 := .cells #[.slice none 0 0, .slice none 0 0, .slice none 0 0] 93)) hb1)
  have x0 := cell_kept hb1 (((Blk.new w [.int .i64 (N : Int), .bool hd, .slice A L.length c] 24).alloc (.cells #[.slice none 0 0, .slice none 0 0, .slice none 0 0] 93)).cell 0 rfl)
  have hq1 := ((Blk.new w [.int .i64 (N : Int), .bool hd, .slice A L.length c] 24).alloc (.cells #[.slice none 0 0, .slice none 0 0, .slice none 0 0] 93)).below hb1
  have hq2 := (Blk.new' (w := w.alloc (.cells #[.int .i64 (N : Int), .bool hd, .slice A L.length c] 24)) (n := w.heap.size + 1) (by simp) [.slice none 0 0, .slice none 0 0, .slice none 0 0] 93).below hb1
  have hsz := hq2.lt
  have hsz2 := hq1.lt
  have hsz3 : w.heap.size < w1.heap.size + 1 := by omega
  have hsz4 : w.heap.size < w1.heap.size + 1 + 1 := by omega
  have hsz5 : w.heap.size < w1.heap.size + 1 + 1 + 1 := by omega
  have hsz6 : w.heap.size < w1.heap.size + 1 + 1 + 1 + 1 := by omega
  have HQ1 := Lib.hid hq1
  have HQ2 := Lib.hid hq2
  clear hR hb1 hq1 hq2
  go_wp2
  go_cut [9] (fun r wc => ∃ bR bD bI bB, r = .pointer (some ⟨bR, 0, none⟩) ∧ FmI w wc N hd (.slice A L.length c) (.slice F f.length c') (.slice (some ⟨bt, 0, none⟩) N N) w1.heap.size bR bD bI bB ∧ Below w1.heap.size w1 wc)
  case first =>
    go_region
    all_goals
      go_wp2_with fail
      go_meet
      case rel =>
        apply FmI.pack HB1.out HQ1.out HQ2.out
        · repeat (first | with_reducible exact Blk.new' (by simp) [_, _, _] 93 | with_reducible refine Blk.drew ?_ | with_reducible refine Blk.alloc ?_ _)
        · repeat (first | with_reducible exact Blk.new' (by simp) [_, _, _, _, _] 137 | with_reducible refine Blk.drew ?_ | with_reducible refine Blk.alloc ?_ _)
        · repeat (first | with_reducible exact Blk.made' (by simp) _ _ 3 | with_reducible refine Blk.drew ?_ | with_reducible refine Blk.alloc ?_ _)
        · repeat (first | with_reducible exact Blk.made' (by simp) _ _ 4 | with_reducible refine Blk.drew ?_ | with_reducible refine Blk.alloc ?_ _)
        · repeat (first | with_reducible exact Blk.madeS (by simp) _ | with_reducible refine Blk.drew ?_ | with_reducible refine Blk.alloc ?_ _)
        · (refine Below.drew ?_)
          (refine Below.alloc (Below.alloc (Below.alloc (Below.alloc (Below.alloc (Below.refl _ _) ?_ _) ?_ _) ?_ _) ?_ _) ?_ _) <;> simp <;> omega
        · omega
        · omega
  case rest =>
    obtain ⟨bR, bD, bI, bB, rfl, hI, hW⟩ := hcut
    obtain ⟨o1, o2, o3, o4, o5⟩ := hI.lo
    obtain ⟨n1, n2, n3, n4, n5, n6⟩ := hI.ne
    have hw1 := HB1.out.size
    have r1 := hI.r.cell 1 rfl
    have rl := hI.r.lt
    have il := hI.i.lt
    have ifr := hI.i.free s
    have ic : wc.cell? ⟨bI, s, none⟩ = some (.bool false) := hI.i.cell s (by simp [hs])
    have hWs : Below w.heap.size w (wc.setCell ⟨bI, s, none⟩ (.bool true)).drew := (hI.below.setCell (p := ⟨bI, s, none⟩) (show w.heap.size ≤ bI by omega) _).drew
    have hWs1 : Below w1.heap.size w1 (wc.setCell ⟨bI, s, none⟩ (.bool true)).drew := (hW.setCell (p := ⟨bI, s, none⟩) (show w1.heap.size ≤ bI by omega) _).drew
    have kx : Blk (wc.setCell ⟨bI, s, none⟩ (.bool true)).drew w1.heap.size 137 [.int .i64 (N : Int), .bool hd, .slice A L.length c, .slice F f.length c', .slice (some ⟨bt, 0, none⟩) N N] := (hI.x.far (show w1.heap.size ≠ bI by omega) _).drew
    have kr : Blk (wc.setCell ⟨bI, s, none⟩ (.bool true)).drew bR 93 [.slice (some ⟨bD, 0, none⟩) N N, .slice (some ⟨bI, 0, none⟩) N N, .slice (some ⟨bB, 0, none⟩) N N] := (hI.r.far (show bR ≠ bI from n2) _).drew
    have kd : Blk (wc.setCell ⟨bI, s, none⟩ (.bool true)).drew bD 3 (encI (List.replicate N 0)) := by
      have h := (hI.d.far (show bD ≠ bI from n4) (.bool true) (p := ⟨bI, s, none⟩)).drew
      simpa [encI] using h
    have ki : Blk (wc.setCell ⟨bI, s, none⟩ (.bool true)).drew bI 4 (encB ((List.replicate N false).set s true)) := by
      have h := (hI.i.set s (.bool true)).drew
      rw [← encB_set]
      simpa [encB] using h
    have kb : Blk (wc.setCell ⟨bI, s, none⟩ (.bool true)).drew bB 102 (encS (List.replicate N default)) := (hI.b.far (show bB ≠ bI from Ne.symm n6) _).drew
    have kres : Blk (wc.setCell ⟨bI, s, none⟩ (.bool true)).drew (w.heap.size + 1) 93 [.slice none 0 0, .slice none 0 0, .slice none 0 0] := (hI.res.far (show w.heap.size + 1 ≠ bI by omega) _).drew
    have hst : Calls Try.prog 124 #[.agg #[.int .i64 (N : Int), .bool hd, .slice A L.length c, .slice F f.length c', .slice (some ⟨bt, 0, none⟩) N N], .agg #[.slice (some ⟨bD, 0, none⟩) N N, .slice (some ⟨bI, 0, none⟩) N N, .slice (some ⟨bB, 0, none⟩) N N]] (wc.setCell ⟨bI, s, none⟩ (.bool true)).drew (SettledPost (wc.setCell ⟨bI, s, none⟩ (.bool true)).drew L N f (s : Int) bD bI bB) := by
      refine settled_calls (okA := fun k => k < w.heap.size) (okF := fun k => k < w.heap.size) (okT := fun k => w.heap.size + 2 ≤ k ∧ k < w1.heap.size) (R := R) hd c c' N bD bI bB (s : Int) p _ _ _ HNet.out ?_ ?_ ?_ ?_ ?_ ?_ kd ki kb (by simp) (by simp) (by simp) ⟨n4, n5, n6⟩ HP.out (BFI.start hs hN1)
      · exact (HA.out.mono (ok' := fun k => k < w.heap.size) fun k hk _ => hk).fr (Fr.of_below (S := NoB) hWs) (fun _ _ h => h)
      · exact (HF.out.mono (ok' := fun k => k < w.heap.size) fun k hk _ => hk).fr (Fr.of_below (S := NoB) hWs) (fun _ _ h => h)
      · exact (HR.out.mono (ok' := fun k => w.heap.size + 2 ≤ k ∧ k < w1.heap.size) fun k hk hk2 => ⟨by simpa using hk2, hk⟩).fr (Fr.of_below (S := NoB) hWs1) (fun _ _ h => h)
      · intro k hk ht; rcases ht with h | h | h <;> omega
      · intro k hk ht; rcases ht with h | h | h <;> omega
      · intro k hk ht; rcases ht with h | h | h <;> omega
    have mk0 : ∀ w', Fr (Tri bD bI bB) (wc.setCell ⟨bI, s, none⟩ (.bool true)).drew w' → (w'.cell? ⟨bR, 0, none⟩ = some (.slice (some ⟨bD, 0, none⟩) N N) ∧ w'.cell? ⟨bR, 1, none⟩ = some (.slice (some ⟨bI, 0, none⟩) N N) ∧ w'.cell? ⟨bR, 2, none⟩ = some (.slice (some ⟨bB, 0, none⟩) N N) ∧
        w'.cell? ⟨w1.heap.size, 0, none⟩ = some (.int .i64 (N : Int)) ∧ w'.cell? ⟨w1.heap.size, 1, none⟩ = some (.bool hd) ∧ w'.cell? ⟨w1.heap.size, 2, none⟩ = some (.slice A L.length c) ∧ w'.cell? ⟨w1.heap.size, 3, none⟩ = some (.slice F f.length c') ∧ w'.cell? ⟨w1.heap.size, 4, none⟩ = some (.slice (some ⟨bt, 0, none⟩) N N)) := by
      intro w' hf
      have a := kr.fr hf (by rintro (h | h | h) <;> omega)
      have b := kx.fr hf (by rintro (h | h | h) <;> omega)
      exact ⟨a.cell 0 rfl, a.cell 1 rfl, a.cell 2 rfl, b.cell 0 rfl, b.cell 1 rfl, b.cell 2 rfl, b.cell 3 rfl, b.cell 4 rfl⟩
    have mk2 : ∀ w', Fr (Tri bD bI bB) (wc.setCell ⟨bI, s, none⟩ (.bool true)).drew w' → Blk w' (w.heap.size + 1) 93 [.slice none 0 0, .slice none 0 0, .slice none 0 0] := fun w' hf => kres.fr hf (by rintro (h | h | h) <;> omega)
    have mk3 : ∀ w', Fr (Tri bD bI bB) (wc.setCell ⟨bI, s, none⟩ (.bool true)).drew w' → Below w.heap.size w w' := fun w' hf => hWs.trans (hf.below hWs.size (by rintro k hk (h | h | h) <;> omega))
    have HST := Lib.hid hst
    have MK := Lib.hid mk0
    have MK2 := Lib.hid mk2
    have MK3 := Lib.hid mk3
    have m1 : w.heap.size + 1 ≠ bR := by omega
    have m2 : w.heap.size + 1 ≠ w1.heap.size := by omega
    have m1' := Ne.symm m1
    have m2' := Ne.symm m2
    clear hI hW x0 hst mk0 mk2 mk3 hWs hWs1 kx kr kd ki kb kres
    go_wp2
    go_region_held3 (fun w' => w'.cell? ⟨bR, 0, none⟩ = some (.slice (some ⟨bD, 0, none⟩) N N) ∧ w'.cell? ⟨bR, 1, none⟩ = some (.slice (some ⟨bI, 0, none⟩) N N) ∧ w'.cell? ⟨bR, 2, none⟩ = some (.slice (some ⟨bB, 0, none⟩) N N) ∧
        w'.cell? ⟨w1.heap.size, 0, none⟩ = some (.int .i64 (N : Int)) ∧ w'.cell? ⟨w1.heap.size, 1, none⟩ = some (.bool hd) ∧ w'.cell? ⟨w1.heap.size, 2, none⟩ = some (.slice A L.length c) ∧ w'.cell? ⟨w1.heap.size, 3, none⟩ = some (.slice F f.length c') ∧ w'.cell? ⟨w1.heap.size, 4, none⟩ = some (.slice (some ⟨bt, 0, none⟩) N N))
      (first | exact MK.out _ (Fr.refl _ _) | exact MK.out _ hfr2 | go_keep)
      (first | (go_at_call 124; refine (HST.out).mono ?_; rintro e w2 ⟨rfl, D, I, B, zd, zi, zb, ld, li, lb, zbf, ztt, hfr2⟩; have z2 := MK2.out _ hfr2; have y0 := z2.cell 0 rfl; have y1 := z2.cell 1 rfl; have y2 := z2.cell 2 rfl; have f0 := z2.free 0; have f1 := z2.free 1; have f2 := z2.free 2; have yl := z2.lt; have ZD := Lib.hid zd; have ZI := Lib.hid zi; have ZB := Lib.hid zb; have LD := Lib.hid ld; have LI := Lib.hid li; have LB := Lib.hid lb; have ZBF := Lib.hid zbf; have ZTT := Lib.hid ztt; have Z2 := Lib.hid z2; clear zd zi zb ld li lb zbf ztt z2))
    go_wp2
    have H3 := ((Z2.out.set 0 (.slice (some ⟨bD, 0, none⟩) N N)).set 1 (.slice (some ⟨bI, 0, none⟩) N N)).set 2 (.slice (some ⟨bB, 0, none⟩) N N)
    have c0 := H3.cell 0 rfl
    have c1 := H3.cell 1 rfl
    have c2 := H3.cell 2 rfl
    refine bodyPost_ret (v := .tuple #[.agg #[.slice (some ⟨bD, 0, none⟩) N N, .slice (some ⟨bI, 0, none⟩) N N, .slice (some ⟨bB, 0, none⟩) N N], .bool true]) ?_ rfl ?_
    · simp only [results, Try.results108]
      simp [go_sem, c0, c1, c2]
    · refine ⟨bD, bI, bB, D, I, B, rfl, ?_, ?_, ?_, LD.out, LI.out, LB.out, ZBF.out, ZTT.out, ?_, by omega, by omega, by omega⟩
      · exact ((ZD.out.far (show bD ≠ w.heap.size + 1 by omega) _).far (show bD ≠ w.heap.size + 1 by omega) _).far (show bD ≠ w.heap.size + 1 by omega) _
      · exact ((ZI.out.far (show bI ≠ w.heap.size + 1 by omega) _).far (show bI ≠ w.heap.size + 1 by omega) _).far (show bI ≠ w.heap.size + 1 by omega) _
      · exact ((ZB.out.far (show bB ≠ w.heap.size + 1 by omega) _).far (show bB ≠ w.heap.size + 1 by omega) _).far (show bB ≠ w.heap.size + 1 by omega) _
      · exact (((MK3.out _ hfr2).setCell (p := ⟨w.heap.size + 1, 0, none⟩) (by simp) _).setCell (p := ⟨w.heap.size + 1, 1, none⟩) (by simp) _).setCell (p := ⟨w.heap.size + 1, 2, none⟩) (by simp) _

end Go.Proofs.Ythbffhlfdjpfaaa
