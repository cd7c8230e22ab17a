/- The places of the arcs that leave, or come to, each node. -/
import Derived.Test.YthbffhlfdjpfaaaRws
import Derived.Test.YthbffhlfdjpfaaaW2
namespace Go.Proofs.Ythbffhlfdjpfaaa
set_option linter.unusedVariables false
set_option linter.unusedSimpArgs false
open Go.RowKit

theorem one_new {w : World} {o1 : Obj} : Below w.heap.size w (w.alloc o1) := (Below.refl _ _).alloc (Nat.le_refl _) _

set_option maxHeartbeats 400000 in
theorem adjfrom_calls (a b c d : Int) (w : World) : Calls Try.prog 138 #[.agg #[.int .i64 a, .int .i64 b, .int .i64 c, .int .i64 d]] w fun e w' => e = .returned (.int .i64 a) ∧ Below w.heap.size w w' := by
  go_enter Try.func138, Try.ntmps138
  go_wp2
  go_ret
  exact ⟨rfl, one_new⟩

set_option maxHeartbeats 400000 in
theorem adjto_calls (a b c d : Int) (w : World) : Calls Try.prog 139 #[.agg #[.int .i64 a, .int .i64 b, .int .i64 c, .int .i64 d]] w fun e w' => e = .returned (.int .i64 b) ∧ Below w.heap.size w w' := by
  go_enter Try.func139, Try.ntmps139
  go_wp2
  go_ret
  exact ⟨rfl, one_new⟩

/-- the places, below k, of the arcs that have v as an end -/
def endsTo (g : Nat → Int) (k : Nat) (v : Nat) : List Int := ((List.range k).filter fun i => g i = (v : Int)).map (Int.ofNat ·)
def endRows (g : Nat → Int) (N k : Nat) : List (List Int) := (List.range N).map (endsTo g k)
theorem endRows_len (g : Nat → Int) (N k : Nat) : (endRows g N k).length = N := by simp [endRows]
theorem endRows_get (g : Nat → Int) (N k v : Nat) (hv : v < N) : gr (endRows g N k) v = endsTo g k v := by simp [gr, endRows, List.getD_eq_getElem?_getD, List.getElem?_map, List.getElem?_range hv]
theorem endRows_zero (g : Nat → Int) (N : Nat) : endRows g N 0 = List.replicate N [] := by
  apply List.ext_getElem
  · simp [endRows]
  · intro i h1 h2; simp [endRows, endsTo]
theorem endsTo_len (g : Nat → Int) (k v : Nat) : (endsTo g k v).length ≤ k := by
  unfold endsTo; rw [List.length_map]; exact Nat.le_trans (List.length_filter_le _ _) (by simp)
theorem endRows_step (g : Nat → Int) (N k v : Nat) (hv : v < N) (hg : g k = (v : Int)) : endRows g N (k + 1) = (endRows g N k).set v (gr (endRows g N k) v ++ [(k : Int)]) := by
  apply List.ext_getElem
  · simp [endRows]
  · intro i h1 h2
    rw [endRows_len] at h1
    have e := endRows_get g N k v hv
    simp only [e]
    by_cases hvi : v = i
    · subst hvi
      rw [List.getElem_set_self]
      simp only [endRows, List.getElem_map, List.getElem_range, endsTo, List.range_succ, List.filter_append, List.map_append]
      simp [hg]
    · rw [List.getElem_set_ne hvi]
      simp only [endRows, List.getElem_map, List.getElem_range, endsTo, List.range_succ, List.filter_append, List.map_append]
      have : ¬ g k = (i : Int) := by omega
      simp [this]

/-- where the loop over the arcs stands -/
structure LsInv (w wr : World) (N : Nat) (g : Nat → Int) (k : Nat) (vs : List Value) : Prop where
  below : Below w.heap.size w wr
  blk : Blk wr (w.heap.size + 1) 25 vs
  rows : Rows wr (w.heap.size + 2) 3 1 enc1 vs (endRows g N k)
theorem LsInv.step {w wr w1 : World} {N : Nat} {g : Nat → Int} {k : Nat} {vs : List Value} (h : LsInv w wr N g k vs) (hb : Below wr.heap.size wr w1) : LsInv w w1 N g k vs :=
  ⟨h.below.trans (hb.mono h.below.size), h.blk.below hb, h.rows.below hb⟩

theorem LsInv.cell {w wr : World} {N : Nat} {g : Nat → Int} {k : Nat} {vs : List Value} (h : LsInv w wr N g k vs) {v : Nat} (hv : v < N) : wr.cell? ⟨w.heap.size + 1, v, none⟩ = some (gv vs v) := by
  refine h.blk.cell v ?_
  have hl : v < vs.length := by rw [h.rows.len, endRows_len]; exact hv
  simp [gv, List.getD_eq_getElem?_getD, List.getElem?_eq_getElem hl]
theorem LsInv.own {w wr : World} {N : Nat} {g : Nat → Int} {k : Nat} {vs : List Value} (h : LsInv w wr N g k vs) {v : Nat} (hv : v < N) : wr.ownsRow (w.heap.size + 2) 3 1 (gv vs v) (endsTo g k v).length ((endsTo g k v).flatMap enc1) := by
  have := h.rows.own v (by rw [endRows_len]; exact hv)
  rwa [endRows_get g N k v hv] at this
/-- one arc more -/
theorem LsInv.append {w wr w2 : World} {N : Nat} {g : Nat → Int} {k : Nat} {vs : List Value} (h : LsInv w wr N g k vs) {v : Nat} (hv : v < N) (hg : g k = (v : Int)) {v1 : Value} {n : Nat} {l : List Value} (hn : n = (endsTo g k v).length + 1) (hl : l = (endsTo g k v).flatMap enc1 ++ enc1 k)
    (hown : w2.ownsRow (w.heap.size + 2) 3 1 v1 n l) (hgr : wr.grownBy w2 (gv vs v).ownBlock) (hat : v1.ownBlock = (gv vs v).ownBlock ∨ v1.ownBlock = some wr.heap.size) : LsInv w (w2.setCell ⟨w.heap.size + 1, v, none⟩ v1) N g (k + 1) (vs.set v v1) := by
  have hs := h.blk.lt
  have hb : ∀ j, (gv vs v).ownBlock = some j → w.heap.size + 2 ≤ j := fun j hj => ((h.own hv).lt j hj).1
  have hv' : v < (endRows g N k).length := by rw [endRows_len]; exact hv
  refine ⟨(h.below.grown hgr (by omega) (fun j hj => by have := hb j hj; omega)).setCell (by simp) _, (h.blk.grown hgr fun e => by have := hb _ e.symm; omega).set v v1, ?_⟩
  rw [endRows_step g N k v hv hg]
  refine Rows.set ?_ (by simp) _
  refine h.rows.append hv' (x := (k : Int)) ?_ ?_ hown hgr hat
  · rw [endRows_get g N k v hv]; exact hn
  · rw [endRows_get g N k v hv]; exact hl

set_option maxRecDepth 10000 in
set_option maxHeartbeats 1000000 in
theorem lists_from {w : World} {ok : Nat → Prop} {A : Option Addr} {L : List Arc} (N : Nat) (hd : Bool) (c : Nat) (hA : RdA w ok A L) (hL : L.length ≤ 200) (hN : N ≤ 50) (hc : L.length ≤ c)
    (hv : ∀ i, i < L.length → 0 ≤ frs L i ∧ frs L i < N) :
    Calls Try.prog 137 #[.agg #[.int .i64 (N : Int), .bool hd, .slice A L.length c], .func (.func 138) #[] #[]] w fun e w' => ∃ b, e = .returned (.slice (some ⟨b, 0, none⟩) N N) ∧ RdLI w' (fun k => w.heap.size ≤ k) (some ⟨b, 0, none⟩) (endRows (frs L) N L.length) ∧ Below w.heap.size w w' := by
  have hmk := mk1 (P := Try.prog) 155 25 (.slice none 0 0) 24 Try.underlying155 info25 rfl (by omega) N (by omega)
  obtain ⟨i0, hi, hzz⟩ := Option.map_eq_some_iff.1 info3
  simp only [Prod.mk.injEq] at hzz
  obtain ⟨hz0, hz1, hz2⟩ := hzz
  have HA := Lib.hid hA
  have HV := Lib.hid hv
  have HI := Lib.hid hi
  have HZ := Lib.hid (And.intro hz0 (And.intro hz1 hz2))
  clear hA hv hi hz0 hz1 hz2
  go_enter Try.func137, Try.ntmps137
  go_wp2
  go_loopw [15] (fun i wr => ∃ (k : Nat) (vs : List Value), k ≤ L.length ∧ i = .int .i64 k ∧ LsInv w wr N (frs L) k vs) (fun i _ => L.length - (intOf i).toNat)
  case atStart => exact ⟨0, _, Nat.zero_le _, rfl, ⟨two_new, by have := Blk.made (w.alloc (Obj.cells #[Value.int IntKind.i64 ↑N, Value.bool hd, Value.slice A L.length c] 24)) (.slice none 0 0) N 25; simpa using this, by rw [endRows_zero]; exact Rows.fresh _ _ _ _ _ _⟩⟩
  case round =>
    obtain ⟨k, vs, hk, rfl, hI⟩ := hrel
    by_cases hlt : k < L.length
    · obtain ⟨b, off, rfl, _, a0, a1, a2, a3⟩ := HA.out k hlt
      obtain ⟨hv0, hv1⟩ := HV.out k hlt
      obtain ⟨vn, hvn⟩ := Int.eq_ofNat_of_zero_le hv0
      have a0' := cell_kept hI.below a0
      have a1' := cell_kept hI.below a1
      have a2' := cell_kept hI.below a2
      have a3' := cell_kept hI.below a3
      have bl := World.block_lt_of_cell? _ _ a0'
      have HVN := Lib.hid hvn
      clear a0 a1 a2 a3
      have hvN : vn < N := by omega
      go_wp2_with fail
      refine (adjfrom_calls _ _ _ _ _).mono ?_
      rintro e w1 ⟨rfl, hb1⟩
      have hI1 := hI.step (one_new.trans (hb1.mono (by simp)))
      have hcell := hI1.cell hvN
      have hfree := hI1.blk.free vn
      have hsz := hI1.blk.lt
      have hown := hI1.own hvN
      have hln := endsTo_len (frs L) k vn
      clear hb1 a0' a1' a2' a3' bl
      obtain ⟨v0, hv0'⟩ : ∃ v0, gv vs vn = v0 := ⟨_, rfl⟩
      rw [hv0'] at hcell hown
      have HV0 := Lib.hid hv0'
      clear hv0'
      go_wp2_with (first | (at_builtin; refine wpList_append_own_at _ rfl (.tmp 28) (.tmp 30) 25 rfl (w.heap.size + 2) 3 i0 (.int .i64 0) 1 8 Try.underlying25 HI.out HZ.out.1 HZ.out.2.1 HZ.out.2.2 rfl (by omega) v0 _ _ rfl (hown.alloc _) ⟨w1.heap.size, 0, none⟩ 1 1 [.int .i64 (k : Int)] rfl rfl ?c1 ?c2 ?c3 ?c4 ?c5 ?_))
      case c1 => exact cell_one_new _ _ _
      case c2 => intro u hu; simp at hu; subst hu; rfl
      case c3 => unfold maxLen; omega
      case c4 => omega
      case c5 => simp; omega
      intro v1 w2 hown2 hgr _ hat
      have hne : ∀ j, v0.ownBlock = some j → w.heap.size + 2 ≤ j := fun j hj => (hown.lt j hj).1
      have hb2 := (hI1.blk.alloc (.cells #[.int .i64 (k : Int)] 3)).grown hgr (fun e => by have := hne _ e.symm; omega)
      have hcell2 : w2.cell? ⟨w.heap.size + 1, vn, none⟩ = some v0 := by
        refine hb2.cell vn ?_
        have hl : vn < vs.length := by rw [hI1.rows.len, endRows_len]; exact hvN
        rw [← HV0.out]
        simp [gv, List.getD_eq_getElem?_getD, List.getElem?_eq_getElem hl]
      have hfree2 := hb2.free vn
      have hsz2 := hb2.lt
      have hfin : LsInv w (w2.setCell ⟨w.heap.size + 1, vn, none⟩ v1) N (frs L) (k + 1) (vs.set vn v1) := by
        have hI2 := hI1.step (one_new (o1 := .cells #[.int .i64 (k : Int)] 3))
        refine hI2.append hvN HVN.out (n := (endsTo (frs L) k vn).length + 1) rfl rfl hown2 ?_ ?_
        · rw [HV0.out]; exact hgr
        · rw [HV0.out]; simpa using hat
      obtain ⟨A1, c1, e1, _, _⟩ := own_shape hown2
      subst e1
      have HF := Lib.hid hfin
      clear hfin hown2 hgr hat hown hne hcell hfree hsz hb2 hvn
      go_wp2
      go_roundw
      case rel => exact ⟨k + 1, _, by omega, by go_num, HF.out⟩
      case measure => simp [intOf]; omega
    · have e : k = L.length := by omega
      subst e
      go_wp2
      go_ret
      have hs := hI.rows.rdLI hI.blk (by omega)
      exact ⟨w.heap.size + 1, rfl, hs.mono (fun j _ hj => by omega), hI.below⟩

set_option maxRecDepth 10000 in
set_option maxHeartbeats 1000000 in
theorem lists_to {w : World} {ok : Nat → Prop} {A : Option Addr} {L : List Arc} (N : Nat) (hd : Bool) (c : Nat) (hA : RdA w ok A L) (hL : L.length ≤ 200) (hN : N ≤ 50) (hc : L.length ≤ c)
    (hv : ∀ i, i < L.length → 0 ≤ tos L i ∧ tos L i < N) :
    Calls Try.prog 137 #[.agg #[.int .i64 (N : Int), .bool hd, .slice A L.length c], .func (.func 139) #[] #[]] w fun e w' => ∃ b, e = .returned (.slice (some ⟨b, 0, none⟩) N N) ∧ RdLI w' (fun k => w.heap.size ≤ k) (some ⟨b, 0, none⟩) (endRows (tos L) N L.length) ∧ Below w.heap.size w w' := by
  have hmk := mk1 (P := Try.prog) 155 25 (.slice none 0 0) 24 Try.underlying155 info25 rfl (by omega) N (by omega)
  obtain ⟨i0, hi, hzz⟩ := Option.map_eq_some_iff.1 info3
  simp only [Prod.mk.injEq] at hzz
  obtain ⟨hz0, hz1, hz2⟩ := hzz
  have HA := Lib.hid hA
  have HV := Lib.hid hv
  have HI := Lib.hid hi
  have HZ := Lib.hid (And.intro hz0 (And.intro hz1 hz2))
  clear hA hv hi hz0 hz1 hz2
  go_enter Try.func137, Try.ntmps137
  go_wp2
  go_loopw [15] (fun i wr => ∃ (k : Nat) (vs : List Value), k ≤ L.length ∧ i = .int .i64 k ∧ LsInv w wr N (tos L) k vs) (fun i _ => L.length - (intOf i).toNat)
  case atStart => exact ⟨0, _, Nat.zero_le _, rfl, ⟨two_new, by have := Blk.made (w.alloc (Obj.cells #[Value.int IntKind.i64 ↑N, Value.bool hd, Value.slice A L.length c] 24)) (.slice none 0 0) N 25; simpa using this, by rw [endRows_zero]; exact Rows.fresh _ _ _ _ _ _⟩⟩
  case round =>
    obtain ⟨k, vs, hk, rfl, hI⟩ := hrel
    by_cases hlt : k < L.length
    · obtain ⟨b, off, rfl, _, a0, a1, a2, a3⟩ := HA.out k hlt
      obtain ⟨hv0, hv1⟩ := HV.out k hlt
      obtain ⟨vn, hvn⟩ := Int.eq_ofNat_of_zero_le hv0
      have a0' := cell_kept hI.below a0
      have a1' := cell_kept hI.below a1
      have a2' := cell_kept hI.below a2
      have a3' := cell_kept hI.below a3
      have bl := World.block_lt_of_cell? _ _ a0'
      have HVN := Lib.hid hvn
      clear a0 a1 a2 a3
      have hvN : vn < N := by omega
      go_wp2_with fail
      refine (adjto_calls _ _ _ _ _).mono ?_
      rintro e w1 ⟨rfl, hb1⟩
      have hI1 := hI.step (one_new.trans (hb1.mono (by simp)))
      have hcell := hI1.cell hvN
      have hfree := hI1.blk.free vn
      have hsz := hI1.blk.lt
      have hown := hI1.own hvN
      have hln := endsTo_len (tos L) k vn
      clear hb1 a0' a1' a2' a3' bl
      obtain ⟨v0, hv0'⟩ : ∃ v0, gv vs vn = v0 := ⟨_, rfl⟩
      rw [hv0'] at hcell hown
      have HV0 := Lib.hid hv0'
      clear hv0'
      go_wp2_with (first | (at_builtin; refine wpList_append_own_at _ rfl (.tmp 28) (.tmp 30) 25 rfl (w.heap.size + 2) 3 i0 (.int .i64 0) 1 8 Try.underlying25 HI.out HZ.out.1 HZ.out.2.1 HZ.out.2.2 rfl (by omega) v0 _ _ rfl (hown.alloc _) ⟨w1.heap.size, 0, none⟩ 1 1 [.int .i64 (k : Int)] rfl rfl ?c1 ?c2 ?c3 ?c4 ?c5 ?_))
      case c1 => exact cell_one_new _ _ _
      case c2 => intro u hu; simp at hu; subst hu; rfl
      case c3 => unfold maxLen; omega
      case c4 => omega
      case c5 => simp; omega
      intro v1 w2 hown2 hgr _ hat
      have hne : ∀ j, v0.ownBlock = some j → w.heap.size + 2 ≤ j := fun j hj => (hown.lt j hj).1
      have hb2 := (hI1.blk.alloc (.cells #[.int .i64 (k : Int)] 3)).grown hgr (fun e => by have := hne _ e.symm; omega)
      have hcell2 : w2.cell? ⟨w.heap.size + 1, vn, none⟩ = some v0 := by
        refine hb2.cell vn ?_
        have hl : vn < vs.length := by rw [hI1.rows.len, endRows_len]; exact hvN
        rw [← HV0.out]
        simp [gv, List.getD_eq_getElem?_getD, List.getElem?_eq_getElem hl]
      have hfree2 := hb2.free vn
      have hsz2 := hb2.lt
      have hfin : LsInv w (w2.setCell ⟨w.heap.size + 1, vn, none⟩ v1) N (tos L) (k + 1) (vs.set vn v1) := by
        have hI2 := hI1.step (one_new (o1 := .cells #[.int .i64 (k : Int)] 3))
        refine hI2.append hvN HVN.out (n := (endsTo (tos L) k vn).length + 1) rfl rfl hown2 ?_ ?_
        · rw [HV0.out]; exact hgr
        · rw [HV0.out]; simpa using hat
      obtain ⟨A1, c1, e1, _, _⟩ := own_shape hown2
      subst e1
      have HF := Lib.hid hfin
      clear hfin hown2 hgr hat hown hne hcell hfree hsz hb2 hvn
      go_wp2
      go_roundw
      case rel => exact ⟨k + 1, _, by omega, by go_num, HF.out⟩
      case measure => simp [intOf]; omega
    · have e : k = L.length := by omega
      subst e
      go_wp2
      go_ret
      have hs := hI.rows.rdLI hI.blk (by omega)
      exact ⟨w.heap.size + 1, rfl, hs.mono (fun j _ hj => by omega), hI.below⟩

set_option maxHeartbeats 400000 in
theorem leaving_calls {w : World} {ok : Nat → Prop} {A : Option Addr} {L : List Arc} (N : Nat) (hd : Bool) (c : Nat) (hA : RdA w ok A L) (hL : L.length ≤ 200) (hN : N ≤ 50) (hc : L.length ≤ c)
    (hv : ∀ i, i < L.length → 0 ≤ frs L i ∧ frs L i < N) :
    Calls Try.prog 125 #[.agg #[.int .i64 (N : Int), .bool hd, .slice A L.length c]] w fun e w' => ∃ b, e = .returned (.slice (some ⟨b, 0, none⟩) N N) ∧ RdLI w' (fun k => w.heap.size ≤ k) (some ⟨b, 0, none⟩) (endRows (frs L) N L.length) ∧ Below w.heap.size w w' := by
  have hf : ∀ w1 : World, Below w.heap.size w w1 → Calls Try.prog 137 #[.agg #[.int .i64 (N : Int), .bool hd, .slice A L.length c], .func (.func 138) #[] #[]] w1 fun e w' => ∃ b, e = .returned (.slice (some ⟨b, 0, none⟩) N N) ∧ RdLI w' (fun k => w.heap.size ≤ k) (some ⟨b, 0, none⟩) (endRows (frs L) N L.length) ∧ Below w.heap.size w w' := by
    intro w1 hb
    refine (lists_from N hd c (hA.fr (Fr.of_below (S := NoB) hb) (fun _ _ h => h)) hL hN hc hv).mono ?_
    rintro e w' ⟨b, he, hr, hb'⟩
    exact ⟨b, he, hr.mono (fun k _ hk => Nat.le_trans hb.size hk), hb.trans (hb'.mono hb.size)⟩
  have HF := Lib.hid hf
  clear hf
  go_enter Try.func125, Try.ntmps125
  go_wp2_with fail
  refine (HF.out _ one_new).mono ?_
  rintro e w1 ⟨b, rfl, hr, hb⟩
  have HR := Lib.hid hr
  clear hr
  go_wp2
  go_ret
  exact ⟨b, rfl, HR.out, hb⟩

set_option maxHeartbeats 400000 in
theorem coming_calls {w : World} {ok : Nat → Prop} {A : Option Addr} {L : List Arc} (N : Nat) (hd : Bool) (c : Nat) (hA : RdA w ok A L) (hL : L.length ≤ 200) (hN : N ≤ 50) (hc : L.length ≤ c)
    (hv : ∀ i, i < L.length → 0 ≤ tos L i ∧ tos L i < N) :
    Calls Try.prog 126 #[.agg #[.int .i64 (N : Int), .bool hd, .slice A L.length c]] w fun e w' => ∃ b, e = .returned (.slice (some ⟨b, 0, none⟩) N N) ∧ RdLI w' (fun k => w.heap.size ≤ k) (some ⟨b, 0, none⟩) (endRows (tos L) N L.length) ∧ Below w.heap.size w w' := by
  have hf : ∀ w1 : World, Below w.heap.size w w1 → Calls Try.prog 137 #[.agg #[.int .i64 (N : Int), .bool hd, .slice A L.length c], .func (.func 139) #[] #[]] w1 fun e w' => ∃ b, e = .returned (.slice (some ⟨b, 0, none⟩) N N) ∧ RdLI w' (fun k => w.heap.size ≤ k) (some ⟨b, 0, none⟩) (endRows (tos L) N L.length) ∧ Below w.heap.size w w' := by
    intro w1 hb
    refine (lists_to N hd c (hA.fr (Fr.of_below (S := NoB) hb) (fun _ _ h => h)) hL hN hc hv).mono ?_
    rintro e w' ⟨b, he, hr, hb'⟩
    exact ⟨b, he, hr.mono (fun k _ hk => Nat.le_trans hb.size hk), hb.trans (hb'.mono hb.size)⟩
  have HF := Lib.hid hf
  clear hf
  go_enter Try.func126, Try.ntmps126
  go_wp2_with fail
  refine (HF.out _ one_new).mono ?_
  rintro e w1 ⟨b, rfl, hr, hb⟩
  have HR := Lib.hid hr
  clear hr
  go_wp2
  go_ret
  exact ⟨b, rfl, HR.out, hb⟩

end Go.Proofs.Ythbffhlfdjpfaaa
