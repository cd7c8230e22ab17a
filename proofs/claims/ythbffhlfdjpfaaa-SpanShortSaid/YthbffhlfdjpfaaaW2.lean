/- The least room of steps; letting so much go a step. -/
import Derived.Test.YthbffhlfdjpfaaaW1
import Derived.StillTailTactics
import Derived.Deep.RegionHeld3
import Derived.Deep.LoopGhost
namespace Go.Proofs.Ythbffhlfdjpfaaa
set_option linter.unusedVariables false
set_option linter.unusedSimpArgs false
open Go.RowKit

/-- the flow behind a push along one step -/
def goF (f : List Int) (st : Stp) (k : Int) : List Int := f.set st.arc (if st.back then fls f st.arc - k else fls f st.arc + k)

set_option maxHeartbeats 400000 in
theorem go_calls {w : World} {A : Option Addr} {f : List Int} (nd : Int) (hd : Bool) (m c c' b : Nat) (st : Stp) (k : Int) (hB : Blk w b 3 (encI f)) (hs : st.arc < f.length) (hm : f.length ≤ 200)
    (hk : 0 ≤ k ∧ k ≤ 1048576) (hfl : 0 ≤ fls f st.arc ∧ fls f st.arc ≤ 1048576) :
    Calls Try.prog 112 #[.agg #[.int .i64 nd, .bool hd, .slice A m c, .slice (some ⟨b, 0, none⟩) f.length c'], .agg #[.int .i64 (st.arc : Int), .bool st.back], .int .i64 k] w fun e w' => e = .returned (.tuple #[]) ∧ Blk w' b 3 (encI (goF f st k)) ∧ Fr (OneB b) w w' := by
  obtain ⟨i, bk⟩ := st
  have h0 := hB.cell i (v := .int .i64 (fls f i)) (by simp [encI, fls, List.getElem?_eq_getElem (show i < f.length from hs), List.getD_eq_getElem?_getD])
  have h1 := hB.free i
  have hb := hB.lt
  obtain ⟨hk0, hk1⟩ := hk
  obtain ⟨hf0, hf1⟩ := hfl
  simp only at hs hf0 hf1 ⊢
  have HB := Lib.hid hB
  clear hB
  cases bk
  all_goals
    go_enter Try.func112, Try.ntmps112
    go_wp2
    go_end0
    refine ⟨rfl, ?_, (((Fr.refl (OneB b) w).setCell (p := ⟨b, i, none⟩) (.inl (show OneB b b from rfl)) _).alloc _).alloc _⟩
    refine Blk.alloc (Blk.alloc ?_ _) _
    rw [goF, ← encI_set]
    exact HB.out.set i _

/-- the least room of steps, from a first number on -/
def leastF (cap f : Nat → Int) (k : Int) (l : List Stp) : Int := l.foldl (fun k s => min k (room cap f s)) k

theorem leastF_snoc (cap f : Nat → Int) (k : Int) (l : List Stp) (s : Stp) : leastF cap f k (l ++ [s]) = min (leastF cap f k l) (room cap f s) := by simp [leastF]
theorem take_stp (l : List Stp) (i : Nat) (h : i < l.length) : l.take (i + 1) = l.take i ++ [stp l i] := by
  rw [List.take_succ_eq_append_getElem h]
  simp [stp, List.getD_eq_getElem?_getD, List.getElem?_eq_getElem h]

theorem one_new_d {w : World} {o1 : Obj} : Below w.heap.size w (w.alloc o1).drew := ((Below.refl _ _).alloc (Nat.le_refl _) _).drew
/-- a cell behind a call that leaves what was -/
theorem cell_kept {w w1 : World} {a : Addr} {v : Value} (h : Below w.heap.size w w1) (hc : w.cell? a = some v) : w1.cell? a = some v := (h.cell (World.block_lt_of_cell? w a hc)).trans hc
/-- w's blocks, then one box, then whatever -/
structure Bx (w w1 : World) (T : TypeId) (vs : List Value) : Prop where
  below : Below w.heap.size w w1
  blk : Blk w1 w.heap.size T vs
theorem Bx.new {w : World} {T : TypeId} {vs : List Value} : Bx w (w.alloc (.cells vs.toArray T)) T vs := ⟨(Below.refl _ _).alloc (Nat.le_refl _) _, Blk.new w vs T⟩
theorem Bx.drew {w w1 : World} {T : TypeId} {vs : List Value} (h : Bx w w1 T vs) : Bx w w1.drew T vs := ⟨h.below.drew, h.blk.drew⟩
theorem Bx.step {w w1 w2 : World} {T : TypeId} {vs : List Value} (hb : Below w1.heap.size w1 w2) (h : Bx w w1 T vs) : Bx w w2 T vs := ⟨h.below.trans (hb.mono h.below.size), h.blk.below hb⟩
theorem Bx.alloc {w w1 : World} {T : TypeId} {vs : List Value} (h : Bx w w1 T vs) (o : Obj) : Bx w (w1.alloc o) T vs := Bx.step ((Below.refl _ _).alloc (Nat.le_refl _) _) h
theorem Bx.cell {w w1 : World} {T : TypeId} {vs : List Value} (h : Bx w w1 T vs) (i : Nat) {v : Value} (hv : vs[i]? = some v) : w1.cell? ⟨w.heap.size, i, none⟩ = some v := h.blk.cell i hv
theorem Bx.lt {w w1 : World} {T : TypeId} {vs : List Value} (h : Bx w w1 T vs) : w.heap.size < w1.heap.size := h.blk.lt
def HBx (w w1 : World) (T : TypeId) (vs : List Value) : Prop := Bx w w1 T vs
theorem HBx.first {w : World} {T : TypeId} {vs : List Value} : HBx w (w.alloc (.cells vs.toArray T)).drew T vs := Bx.drew Bx.new
theorem HBx.step1 {w w2 : World} {T : TypeId} {vs : List Value} (hb : Below (w.alloc (.cells vs.toArray T)).drew.heap.size (w.alloc (.cells vs.toArray T)).drew w2) : HBx w w2 T vs := Bx.step hb (Bx.drew Bx.new)
theorem HBx.out {w w1 : World} {T : TypeId} {vs : List Value} (h : HBx w w1 T vs) : Bx w w1 T vs := h

theorem stp_drop (l : List Stp) (k : Nat) : stp l.tail k = stp l (k + 1) := by simp [stp, List.getD_eq_getElem?_getD]
theorem min_if (x y : Int) : (if y < x then y else x) = min x y := by split <;> omega
theorem ret_int {k : IntKind} {a b : Int} (h : a = b) : Ending.returned (.int k a) = .returned (.int k b) := by rw [h]

set_option maxRecDepth 10000 in
set_option maxHeartbeats 400000 in
theorem least_calls {w : World} {ok ok' ok2 : Nat → Prop} {A F W : Option Addr} {L : List Arc} {f : List Int} {l : List Stp} (nd : Int) (hd : Bool) (c c' c2 : Nat) (hA : RdA w ok A L) (hL : L.length ≤ 200) (hF : RdI w ok' F f) (hf : f.length = L.length)
    (hW : RdS w ok2 W l) (hl : 0 < l.length) (hl2 : l.length ≤ 1000) (hcc : l.length ≤ c2) (hs : ∀ i, i < l.length → (stp l i).arc < L.length)
    (hc : ∀ i, i < L.length → 0 ≤ caps L i ∧ caps L i ≤ 1048576) (hfl : ∀ i, i < L.length → 0 ≤ fls f i ∧ fls f i ≤ caps L i) :
    Calls Try.prog 111 #[.agg #[.int .i64 nd, .bool hd, .slice A L.length c, .slice F f.length c'], .slice W l.length c2] w fun e w' => e = .returned (.int .i64 (leastF (caps L) (fls f) (room (caps L) (fls f) (stp l 0)) l.tail)) ∧ Below w.heap.size w w' := by
  obtain ⟨b, off, rfl, _, s0, s1⟩ := hW 0 hl
  have hb := World.block_lt_of_cell? w _ s0
  simp only [Nat.zero_mul, Nat.add_zero] at s0 s1
  have hr : ∀ (i : Nat) (w1 : World), i < l.length → Below w.heap.size w w1 → Calls Try.prog 131 #[.agg #[.int .i64 nd, .bool hd, .slice A L.length c, .slice F f.length c'], .agg #[.int .i64 ((stp l i).arc : Int), .bool (stp l i).back]] w1 fun e w' => e = .returned (.int .i64 (room (caps L) (fls f) (stp l i))) ∧ Below w1.heap.size w1 w' := by
    intro i w1 hi hb
    have h1 := hc _ (hs i hi)
    have h2 := hfl _ (hs i hi)
    have hfr := Fr.of_below (S := NoB) hb
    exact room_calls nd hd c c' (stp l i) (hA.fr hfr (fun _ _ h => h)) hL (hs i hi) (hF.fr hfr (fun _ _ h => h)) hf h1 (by omega)
  have HR := Lib.hid hr
  have HW := Lib.hid hW
  clear hr hW hA hF hs hc hfl hf
  have mk : ∀ w', HBx w w' 134 [.int .i64 nd, .bool hd, .slice A L.length c, .slice F f.length c'] → (w'.cell? ⟨b, off, none⟩ = some (.int .i64 ((stp l 0).arc : Int)) ∧ w'.cell? ⟨b, off + 1, none⟩ = some (.bool (stp l 0).back) ∧ w'.cell? ⟨w.heap.size, 0, none⟩ = some (.int .i64 nd) ∧ w'.cell? ⟨w.heap.size, 1, none⟩ = some (.bool hd) ∧ w'.cell? ⟨w.heap.size, 2, none⟩ = some (.slice A L.length c) ∧ w'.cell? ⟨w.heap.size, 3, none⟩ = some (.slice F f.length c') ∧ HBx w w' 134 [.int .i64 nd, .bool hd, .slice A L.length c, .slice F f.length c']) :=
    fun w' h => ⟨cell_kept h.out.below s0, cell_kept h.out.below s1, h.out.cell 0 rfl, h.out.cell 1 rfl, h.out.cell 2 rfl, h.out.cell 3 rfl, h⟩
  have MK := Lib.hid mk
  clear mk
  go_enter Try.func111, Try.ntmps111
  go_wp2
  go_region_held3 (fun w' => w'.cell? ⟨b, off, none⟩ = some (.int .i64 ((stp l 0).arc : Int)) ∧ w'.cell? ⟨b, off + 1, none⟩ = some (.bool (stp l 0).back) ∧ w'.cell? ⟨w.heap.size, 0, none⟩ = some (.int .i64 nd) ∧ w'.cell? ⟨w.heap.size, 1, none⟩ = some (.bool hd) ∧ w'.cell? ⟨w.heap.size, 2, none⟩ = some (.slice A L.length c) ∧ w'.cell? ⟨w.heap.size, 3, none⟩ = some (.slice F f.length c') ∧ HBx w w' 134 [.int .i64 nd, .bool hd, .slice A L.length c, .slice F f.length c']) (first | exact MK.out _ HBx.first | exact MK.out _ (HBx.step1 hb1))
    (first | (go_at_call 131; refine (HR.out 0 _ hl ?hb).mono ?_; (case hb => exact one_new_d); rintro e w1 ⟨rfl, hb1⟩))
  go_wp2
  · have hB : HBx w w1 134 [.int .i64 nd, .bool hd, .slice A L.length c, .slice F f.length c'] := HBx.step1 hb1
    clear hb1
    have hl1 : l.length ≤ 1 := by omega
    have hn : ¬ ((0 : Int) < ((l.length - 1 : Nat) : Int)) := by omega
    refine wp_loop_rounds 1 ?_
    rw [rounds_succ]
    go_wp2
    go_ret
    refine ⟨ret_int ?_, hB.out.below⟩
    rw [List.eq_nil_of_length_eq_zero (l := l.tail) (by simp; omega)]
    rfl
  · have hB : HBx w w1 134 [.int .i64 nd, .bool hd, .slice A L.length c, .slice F f.length c'] := HBx.step1 hb1
    clear hb1
    go_loopw [5, 16] (fun v i wr => ∃ k : Nat, k ≤ l.length - 1 ∧ i = .int .i64 k ∧ v = .int .i64 (leastF (caps L) (fls f) (room (caps L) (fls f) (stp l 0)) (l.tail.take k)) ∧ HBx w wr 134 [.int .i64 nd, .bool hd, .slice A L.length c, .slice F f.length c']) (fun _ i _ => l.length - (intOf i).toNat)
    case atStart => exact ⟨0, Nat.zero_le _, rfl, rfl, hB⟩
    case round =>
      obtain ⟨k, hk, rfl, rfl, hB⟩ := hrel
      by_cases hlt : k < l.length - 1
      · obtain ⟨b', off', e', _, g0, g1⟩ := HW.out (k + 1) (by omega)
        cases e'
        have g0' := cell_kept hB.out.below g0
        have g1' := cell_kept hB.out.below g1
        rw [show off + (k + 1) * 2 = off + 2 + k * 2 by omega] at g0' g1'
        have x0 := hB.out.cell 0 rfl
        have x1 := hB.out.cell 1 rfl
        have x2 := hB.out.cell 2 rfl
        have x3 := hB.out.cell 3 rfl
        have xl := hB.out.lt
        have bl := World.block_lt_of_cell? _ _ g0'
        clear g0 g1
        have hls : leastF (caps L) (fls f) (room (caps L) (fls f) (stp l 0)) (l.tail.take (k + 1)) = min (leastF (caps L) (fls f) (room (caps L) (fls f) (stp l 0)) (l.tail.take k)) (room (caps L) (fls f) (stp l (k + 1))) := by
          rw [take_stp _ _ (by simp; omega), leastF_snoc, stp_drop]
        have HLS := Lib.hid hls
        clear hls
        go_wp2_with (first | (go_at_call 131; refine (HR.out (k + 1) _ ?hk ?hb).mono ?_; (case hk => omega); (case hb => exact (hB.out.alloc _).below); rintro e w2 ⟨rfl, hb2⟩))
        go_roundw
        case rel => exact ⟨k + 1, by omega, by go_num, by rw [HLS.out, ← min_if], Bx.step hb2 (hB.out.alloc _)⟩
        case measure => simp [intOf]; omega
      · go_wp2
        go_ret
        refine ⟨ret_int ?_, hB.out.below⟩
        rw [List.take_of_length_le (by simp; omega)]

end Go.Proofs.Ythbffhlfdjpfaaa
