/- What the making of a seeker leads through: its rows, their growth, their sorting. -/
import Derived.Test.YthbffhlfdjpfaaaW7
namespace Go.Proofs.Ythbffhlfdjpfaaa
set_option linter.unusedVariables false
set_option linter.unusedSimpArgs false
open Go.RowKit

/-- where the making of a seeker stands: bx holds the seeker, bt its rows, which lie from 'base' on -/
structure AtI (w wc : World) (N : Nat) (hd : Bool) (A : Value) (F : Value) (bx bt base : Nat) (vs : List Value) (R : List (List Stp)) : Prop where
  below : Below w.heap.size w wc
  lo : w.heap.size + 2 ≤ bx ∧ bx < w.heap.size + 4
  lo2 : w.heap.size + 2 ≤ bt ∧ bt < w.heap.size + 4
  ne : bx ≠ bt
  hi : w.heap.size + 4 ≤ base ∧ base ≤ wc.heap.size
  box : Blk wc w.heap.size 24 [.int .i64 (N : Int), .bool hd, A]
  res : Blk wc (w.heap.size + 1) 137 [.int .i64 0, .bool false, .slice none 0 0, .slice none 0 0, .slice none 0 0]
  sk : Blk wc bx 137 [.int .i64 (N : Int), .bool hd, A, F, .slice (some ⟨bt, 0, none⟩) N N]
  top : Blk wc bt 56 vs
  rows : Rows wc base 102 2 enc2 vs R
  len : R.length = N
theorem AtI.step {w wc w1 : World} {N : Nat} {hd : Bool} {A F : Value} {bx bt base : Nat} {vs : List Value} {R : List (List Stp)} (h : AtI w wc N hd A F bx bt base vs R) (hb : Below wc.heap.size wc w1) : AtI w w1 N hd A F bx bt base vs R :=
  ⟨h.below.trans (hb.mono h.below.size), h.lo, h.lo2, h.ne, ⟨h.hi.1, Nat.le_trans h.hi.2 hb.size⟩, h.box.below hb, h.res.below hb, h.sk.below hb, h.top.below hb, h.rows.below hb, h.len⟩
theorem AtI.rebase {w wc : World} {N : Nat} {hd : Bool} {A F : Value} {bx bt base : Nat} (h : AtI w wc N hd A F bx bt base (List.replicate N (.slice none 0 0)) (List.replicate N [])) : AtI w wc N hd A F bx bt wc.heap.size (List.replicate N (.slice none 0 0)) (List.replicate N []) :=
  ⟨h.below, h.lo, h.lo2, h.ne, ⟨Nat.le_trans h.hi.1 h.hi.2, Nat.le_refl _⟩, h.box, h.res, h.sk, h.top, Rows.fresh _ _ _ _ _ _, h.len⟩
theorem below_then' {w wc w1 : World} (h : Below w.heap.size w wc) (hb : Below wc.heap.size wc w1) : Below w.heap.size w w1 := h.trans (hb.mono h.size)
theorem kb1 {W w1 : World} (hb : Below W.drew.heap.size W.drew w1) : Below W.heap.size W w1 := (Below.refl _ _).drew.trans hb
theorem RdLI.new {w1 w2 : World} {A : Option Addr} {R : List (List Int)} {b lo B : Nat} (h : RdLI w1 (fun k => b ≤ k) A R) (hlo : lo ≤ b) (hb : Below w1.heap.size w1 w2) (hB : w1.heap.size ≤ B) : RdLI w2 (fun k => lo ≤ k ∧ k < B) A R :=
  (h.mono (ok' := fun k => lo ≤ k ∧ k < B) fun k hk hbk => ⟨Nat.le_trans hlo hbk, by omega⟩).fr (Fr.of_below (S := NoB) hb) fun _ _ h => h
theorem kb2 {W w1 w2 : World} (hb : Below w1.heap.size w1 w2) (h : Hid (Below W.heap.size W w1)) : Below W.heap.size W w2 := below_then' h hb

def fwd (i : Int) : Stp := ⟨i.toNat, false⟩
def bck (i : Int) : Stp := ⟨i.toNat, true⟩
/-- the steps that begin at u -/
def stepsOf (L : List Arc) (u : Nat) : List Stp := (endsTo (frs L) L.length u).map fwd ++ (endsTo (tos L) L.length u).map bck
/-- the rows below v are done -/
structure AtR (L : List Arc) (N v : Nat) (R : List (List Stp)) : Prop where
  done : ∀ u, u < v → (gr R u).Perm (stepsOf L u)
  todo : ∀ u, v ≤ u → gr R u = []
def AtS (bt B k : Nat) : Prop := k = bt ∨ B ≤ k

/-- a seeker's rows, read: each holds the steps that begin at its node, in some order -/
structure RdAt (w : World) (ok : Nat → Prop) (T : Option Addr) (L : List Arc) (N : Nat) (R : List (List Stp)) : Prop where
  len : R.length = N
  perm : ∀ u, u < N → (gr R u).Perm (stepsOf L u)
  rd : RdLS w ok T R
theorem RdAt.fr {w w' : World} {S ok : Nat → Prop} {T : Option Addr} {L : List Arc} {N : Nat} {R : List (List Stp)} (h : RdAt w ok T L N R) (hf : Fr S w w') (hn : ∀ k, ok k → ¬ S k) : RdAt w' ok T L N R := ⟨h.len, h.perm, h.rd.fr hf hn⟩
theorem RdAt.mono {w : World} {ok ok' : Nat → Prop} {T : Option Addr} {L : List Arc} {N : Nat} {R : List (List Stp)} (h : RdAt w ok T L N R) (hn : ∀ k, k < w.heap.size → ok k → ok' k) : RdAt w ok' T L N R := ⟨h.len, h.perm, h.rd.mono hn⟩
theorem endsTo_mem {g : Nat → Int} {k v : Nat} {x : Int} (h : x ∈ endsTo g k v) : ∃ i : Nat, x = (i : Int) ∧ i < k ∧ g i = (v : Int) := by
  obtain ⟨i, hi, he⟩ := List.mem_map.1 h
  have := List.mem_filter.1 hi
  exact ⟨i, he.symm, by simpa using this.1, by simpa using this.2⟩
theorem stepsOf_arc {L : List Arc} {u : Nat} {s : Stp} (h : s ∈ stepsOf L u) : s.arc < L.length := by
  rcases List.mem_append.1 h with h | h
  · obtain ⟨x, hx, rfl⟩ := List.mem_map.1 h
    obtain ⟨i, rfl, hi, _⟩ := endsTo_mem hx
    simpa [fwd] using hi
  · obtain ⟨x, hx, rfl⟩ := List.mem_map.1 h
    obtain ⟨i, rfl, hi, _⟩ := endsTo_mem hx
    simpa [bck] using hi
theorem AtR.next {L : List Arc} {N v : Nat} {R : List (List Stp)} {l' : List Stp} (h : AtR L N v R) (hv : v < R.length) (hp : l'.Perm (stepsOf L v)) : AtR L N (v + 1) (R.set v l') := by
  refine ⟨fun u hu => ?_, fun u hu => ?_⟩
  · by_cases huv : v = u
    · subst huv; rw [gr_set_self hv]; exact hp
    · rw [gr_set_ne huv]; exact h.done u (by omega)
  · rw [gr_set_ne (by omega)]; exact h.todo u (by omega)
theorem set_gr {α : Type} (R : List (List α)) (v : Nat) : R.set v (gr R v) = R := by
  apply List.ext_getElem
  · simp
  · intro i h1 h2
    by_cases h : v = i
    · subst h; simp [gr, List.getD_eq_getElem?_getD, List.getElem?_eq_getElem h2]
    · rw [List.getElem_set_ne h]
def AtPost (w : World) (N : Nat) (hd : Bool) (A F : Value) (L : List Arc) (e : Ending) (w' : World) : Prop :=
  ∃ bt R, e = .returned (.agg #[.int .i64 (N : Int), .bool hd, A, F, .slice (some ⟨bt, 0, none⟩) N N]) ∧ RdAt w' (fun k => w.heap.size ≤ k) (some ⟨bt, 0, none⟩) L N R ∧ Below w.heap.size w w'

theorem AtI.cellv {w wr : World} {N : Nat} {hd : Bool} {A F : Value} {bx bt base : Nat} {vs : List Value} {R : List (List Stp)} (h : AtI w wr N hd A F bx bt base vs R) {v : Nat} (hv : v < N) : wr.cell? ⟨bt, v, none⟩ = some (gv vs v) := by
  refine h.top.cell v ?_
  have hl : v < vs.length := by rw [h.rows.len, h.len]; exact hv
  simp [gv, List.getD_eq_getElem?_getD, List.getElem?_eq_getElem hl]
theorem AtI.ownne {w wr : World} {N : Nat} {hd : Bool} {A F : Value} {bx bt base : Nat} {vs : List Value} {R : List (List Stp)} (h : AtI w wr N hd A F bx bt base vs R) {v : Nat} (hv : v < N) {k : Nat} (hk : k < w.heap.size + 4) : some k ≠ (gv vs v).ownBlock := fun e => by
  have := ((h.rows.own v (by rw [h.len]; exact hv)).lt k e.symm).1
  have := h.hi.1
  omega
/-- behind an append to row v, ahead of the store -/
theorem AtI.grown {w wr w2 : World} {N : Nat} {hd : Bool} {A F : Value} {bx bt base : Nat} {vs : List Value} {R : List (List Stp)} (h : AtI w wr N hd A F bx bt base vs R) {v : Nat} (hv : v < N) (hgr : wr.grownBy w2 (gv vs v).ownBlock) :
    w2.cell? ⟨bt, v, none⟩ = some (gv vs v) ∧ w2.frozen? ⟨bt, v, none⟩ = false ∧ bt < w2.heap.size ∧ w2.cell? ⟨bx, 4, none⟩ = some (.slice (some ⟨bt, 0, none⟩) N N) ∧ bx < w2.heap.size := by
  have hne := h.ownne hv h.lo2.2
  exact ⟨hgr.cell (h.cellv hv) hne, (h.top.grown hgr hne).free v, (h.top.grown hgr hne).lt, (h.sk.grown hgr (h.ownne hv h.lo.2)).cell 4 rfl, (h.sk.grown hgr (h.ownne hv h.lo.2)).lt⟩
/-- one step more -/
theorem AtI.append {w wr w2 : World} {N : Nat} {hd : Bool} {A F : Value} {bx bt base : Nat} {vs : List Value} {R : List (List Stp)} (h : AtI w wr N hd A F bx bt base vs R) {v : Nat} (hv : v < N) {v1 : Value} {s : Stp} {n : Nat} {l : List Value} (hn : n = (gr R v).length + 1) (hl : l = (gr R v).flatMap enc2 ++ enc2 s)
    (hown : w2.ownsRow base 102 2 v1 n l) (hgr : wr.grownBy w2 (gv vs v).ownBlock) (hat : v1.ownBlock = (gv vs v).ownBlock ∨ v1.ownBlock = some wr.heap.size) :
    AtI w (w2.setCell ⟨bt, v, none⟩ v1) N hd A F bx bt base (vs.set v v1) (R.set v (gr R v ++ [s])) ∧ Fr (AtS bt base) wr (w2.setCell ⟨bt, v, none⟩ v1) := by
  have hs := h.hi
  have h2 := h.lo2
  have hb : ∀ j, (gv vs v).ownBlock = some j → base ≤ j := fun j hj => ((h.rows.own v (by rw [h.len]; exact hv)).lt j hj).1
  have hne : ∀ k, k < w.heap.size + 4 → some k ≠ (gv vs v).ownBlock := fun k hk => h.ownne hv hk
  refine ⟨⟨(h.below.grown hgr (by omega) (fun j hj => by have := hb j hj; omega)).setCell (p := ⟨bt, v, none⟩) (show w.heap.size ≤ bt by omega) _, h.lo, h.lo2, h.ne, ⟨hs.1, Nat.le_trans hs.2 (by simpa [World.setCell] using hgr.size)⟩,
    (h.box.grown hgr (hne _ (by omega))).far (show w.heap.size ≠ bt by omega) _, (h.res.grown hgr (hne _ (by omega))).far (show w.heap.size + 1 ≠ bt by omega) _, (h.sk.grown hgr (hne _ h.lo.2)).far (show bx ≠ bt from h.ne) _,
    (h.top.grown hgr (hne _ h2.2)).set v v1, Rows.set (h.rows.append (by rw [h.len]; exact hv) hn hl hown hgr hat) (show bt < base by omega) _, by rw [List.length_set]; exact h.len⟩, ?_⟩
  exact ((Fr.refl (AtS bt base) wr).grown hgr (fun k hk => .inl (.inr (hb k hk)))).setCell (p := ⟨bt, v, none⟩) (.inl (.inl rfl)) _

theorem row_step {α β : Type} (R : List (List α)) (P : List α) (g : β → α) (xs : List β) {v j : Nat} (hv : v < R.length) (hj : j < xs.length) :
    (R.set v (P ++ (xs.take j).map g)).set v (gr (R.set v (P ++ (xs.take j).map g)) v ++ [g xs[j]]) = R.set v (P ++ (xs.take (j + 1)).map g) := by
  rw [gr_set_self hv, List.set_set, List.take_succ_eq_append_getElem hj, List.map_append, ← List.append_assoc]
  rfl
theorem AtI.loopStep {w wr wd : World} {N : Nat} {hd : Bool} {A F : Value} {bx bt base : Nat} {vs : List Value} {R : List (List Stp)} {P : List Stp} {g : Int → Stp} {xs : List Int} {v j : Nat}
    (h : AtI w wr N hd A F bx bt base vs (R.set v (P ++ (xs.take j).map g))) (hG : Fr (AtS bt base) wd wr) (hv : v < N) (hj : j < xs.length) {b : Bool} {x : Nat} (hs : enc2 (g xs[j]) = [.int .i64 (x : Int), .bool b])
    {n0 : Nat} (hn0 : (gr (R.set v (P ++ (xs.take j).map g)) v).length = n0) {v0 : Value} (hv0 : gv vs v = v0) :
    ∀ (w1 : World) (v1 : Value), w1.ownsRow base 102 2 v1 (n0 + 1) ((gr (R.set v (P ++ (xs.take j).map g)) v).flatMap enc2 ++ [.int .i64 (x : Int), .bool b]) → ((wr.alloc (.cells #[.int .i64 (x : Int), .bool b] 102)).drew).grownBy w1 v0.ownBlock →
      (v1.ownBlock = v0.ownBlock ∨ v1.ownBlock = some (wr.heap.size + 1)) →
      AtI w (w1.setCell ⟨bt, v, none⟩ v1) N hd A F bx bt base (vs.set v v1) (R.set v (P ++ (xs.take (j + 1)).map g)) ∧ Fr (AtS bt base) wd (w1.setCell ⟨bt, v, none⟩ v1) := by
  intro w1 v1 hown hgr hat
  subst hn0 hv0
  have hRl : v < R.length := by have := h.len; rw [List.length_set] at this; omega
  have h' := h.step (w1 := (wr.alloc (.cells #[.int .i64 (x : Int), .bool b] 102)).drew) one_new_d
  have hq := h'.append hv (s := g xs[j]) rfl (by rw [hs]) hown hgr (by simpa using hat)
  rw [row_step R P g xs hRl hj] at hq
  exact ⟨hq.1, (hG.trans ((Fr.of_below one_new_d))).trans hq.2⟩
theorem endsTo_nat (g : Nat → Int) (k v : Nat) {j : Nat} (hj : j < (endsTo g k v).length) : ∃ x : Nat, (endsTo g k v)[j] = (x : Int) ∧ x < k := by
  have hm : (endsTo g k v)[j] ∈ endsTo g k v := List.getElem_mem _
  obtain ⟨x, hx, he⟩ := List.mem_map.1 hm
  exact ⟨x, he.symm, by have := (List.mem_filter.1 hx).1; simpa using this⟩

theorem Blk.new' {w : World} {n : Nat} (hn : n = w.heap.size) (vs : List Value) (T : TypeId) : Blk (w.alloc (.cells vs.toArray T)) n T vs := by subst hn; exact Blk.new w vs T
theorem Blk.made' {w : World} {n : Nat} (hn : n = w.heap.size) (z : Value) (m : Nat) (T : TypeId) : Blk (w.alloc (.cells (madeCells #[z] m) T)) n T (List.replicate m z) := by subst hn; exact Blk.made w z m T
theorem four_new {w : World} {o1 o2 o3 o4 : Obj} : Below w.heap.size w ((((w.alloc o1).alloc o2).alloc o3).alloc o4).drew := ((((two_new).alloc (by simp; omega) _).alloc (by simp; omega) _)).drew
theorem AtI.new1 (w : World) (N : Nat) (hd : Bool) (A F : Value) : AtI w ((((w.alloc (.cells #[.int .i64 (N : Int), .bool hd, A] 24)).alloc (.cells #[.int .i64 0, .bool false, .slice none 0 0, .slice none 0 0, .slice none 0 0] 137)).alloc (.cells (madeCells #[.slice none 0 0] N) 56)).alloc
    (.cells #[.int .i64 (N : Int), .bool hd, A, F, .slice (some ⟨w.heap.size + 1 + 1, 0, none⟩) N N] 137)).drew N hd A F (w.heap.size + 1 + 1 + 1) (w.heap.size + 1 + 1) (w.heap.size + 4) (List.replicate N (.slice none 0 0)) (List.replicate N []) :=
  ⟨four_new, by omega, by omega, by omega, ⟨by omega, by simp⟩, ((((Blk.new w [_, _, _] 24).alloc _).alloc _).alloc _).drew, (((Blk.new' (by simp) [_, _, _, _, _] 137).alloc _).alloc _).drew, (Blk.new' (by simp) [_, _, _, _, _] 137).drew,
    ((Blk.made' (by simp) _ _ _).alloc _).drew, Rows.fresh _ _ _ _ _ _, by simp⟩
theorem AtI.new2 (w : World) (N : Nat) (hd : Bool) (A F : Value) : AtI w ((((w.alloc (.cells #[.int .i64 (N : Int), .bool hd, A] 24)).alloc (.cells #[.int .i64 0, .bool false, .slice none 0 0, .slice none 0 0, .slice none 0 0] 137)).alloc
    (.cells #[.int .i64 (N : Int), .bool hd, A, F, .slice (some ⟨w.heap.size + 1 + 1 + 1, 0, none⟩) N N] 137)).alloc (.cells (madeCells #[.slice none 0 0] N) 56)).drew N hd A F (w.heap.size + 1 + 1) (w.heap.size + 1 + 1 + 1) (w.heap.size + 4) (List.replicate N (.slice none 0 0)) (List.replicate N []) :=
  ⟨four_new, by omega, by omega, by omega, ⟨by omega, by simp⟩, ((((Blk.new w [_, _, _] 24).alloc _).alloc _).alloc _).drew, (((Blk.new' (by simp) [_, _, _, _, _] 137).alloc _).alloc _).drew, ((Blk.new' (by simp) [_, _, _, _, _] 137).alloc _).drew,
    (Blk.made' (by simp) _ _ _).drew, Rows.fresh _ _ _ _ _ _, by simp⟩


set_option maxHeartbeats 400000 in
theorem insert_nil (A : Option Addr) (c : Nat) (F : Value) (w : World) : Calls Try.prog 147 #[.slice A 0 c, .int .i64 0, .int .i64 0, F] w fun e w' => e = .returned (.tuple #[]) ∧ w = w' := by
  go_enter Try.func147, Try.ntmps147
  go_wp2
  refine wp_loop_rounds 1 ?_
  rw [rounds_succ]
  go_wp2
  go_end0
  exact ⟨rfl, rfl⟩
set_option maxHeartbeats 400000 in
theorem stable_nil (A : Option Addr) (c : Nat) (F : Value) (w : World) : Calls Try.prog 140 #[.slice A 0 c, .int .i64 0, F] w fun e w' => e = .returned (.tuple #[]) ∧ w = w' := by
  go_enter Try.func140, Try.ntmps140
  go_wp2
  refine wp_loop_rounds 1 ?_
  rw [rounds_succ]
  go_wp2_with (first | (go_at_call 147; refine (insert_nil _ _ _ _).mono ?_; rintro e w' ⟨rfl, rfl⟩))
  refine wp_loop_rounds 1 ?_
  rw [rounds_succ]
  go_wp2
  go_end0
  exact ⟨rfl, rfl⟩
set_option maxHeartbeats 400000 in
theorem sort_nil (A : Option Addr) (c : Nat) (F : Value) (w : World) : Calls Try.prog 127 #[.slice A 0 c, F] w fun e w' => e = .returned (.tuple #[]) ∧ w = w' := by
  go_enter Try.func127, Try.ntmps127
  go_wp2_with (first | (go_at_call 140; refine (stable_nil _ _ _ _).mono ?_; rintro e w' ⟨rfl, rfl⟩))
  go_end0
  exact ⟨rfl, rfl⟩

theorem Rows.sorted {w w' : World} {base g c : Nat} {vs : List Value} {R : List (List Stp)} {v : Nat} {l' : List Stp} {tl : List Value} (h : Rows w base 102 2 enc2 vs R) (hv : v < R.length) (hg : gv vs v = .slice (some ⟨g, 0, none⟩) (gr R v).length c) (hp : l'.Perm (gr R v)) (hS0 : StB w g (gr R v) tl) (hS : StB w' g l' tl) (hF : Fr (OneB g) w w') :
    Rows w' base 102 2 enc2 vs (R.set v l') := by
  have hob : (gv vs v).ownBlock = some g := by rw [hg]; rfl
  refine ⟨by rw [List.length_set]; exact h.len, fun u hu => ?_, fun x y hx hy hxy => h.apart x y (by simpa using hx) (by simpa using hy) hxy⟩
  rw [List.length_set] at hu
  by_cases huv : v = u
  · subst huv
    rw [gr_set_self hv, hp.length_eq]
    obtain ⟨h1, h2⟩ := h.own v hv
    rcases h2 with ⟨h2, _⟩ | ⟨g', cap, cur, he, hb, hh, hc, hm, hs, ht⟩
    · rw [hg] at h2; cases h2
    · rw [hg] at he
      injection he with he he2 he3
      injection he with he
      injection he with he
      subst he
      have hcur : cur = (encS (gr R v) ++ tl).toArray := by
        have h0 : w.heap[g]? = some (.cells (encS (gr R v) ++ tl).toArray 102 (0, 0)) := hS0
        rw [hh] at h0
        injection h0 with h0
        injection h0 with h0
      refine ⟨by rw [enc2_map, encS_len, hp.length_eq], .inr ⟨g, cap, (encS l' ++ tl).toArray, by rw [hg, he3], hb, hS, hc, hm, ?_, ?_⟩⟩
      · rw [hcur] at hs
        simp only [List.size_toArray, List.length_append, encS_len, hp.length_eq] at hs ⊢
        exact hs
      · rw [enc2_map]
        simp only [List.toList_toArray]
        rw [List.take_left' (by rw [encS_len, hp.length_eq])]
  · rw [gr_set_ne huv]
    obtain ⟨h1, h2⟩ := h.own u hu
    refine ⟨h1, ?_⟩
    rcases h2 with h2 | ⟨g', cap, cur, he, hb, hh, r⟩
    · exact .inl h2
    · refine .inr ⟨g', cap, cur, he, hb, ?_, r⟩
      rw [hF.block g' (heap_lt hh) fun e => ?_]
      · exact hh
      · have e' : g' = g := e
        rcases h.apart u v hu hv (Ne.symm huv) with h' | h'
        · rw [he] at h'; cases h'
        · rw [he, hob, e'] at h'; exact h' rfl

/-- an owned row that is not nil, as the sort wants it -/
theorem own_stb {w : World} {base : Nat} {v : Value} {l : List Stp} (h : w.ownsRow base 102 2 v l.length (l.flatMap enc2)) : (l = [] ∧ v = .slice none 0 0) ∨ ∃ g c tl, v = .slice (some ⟨g, 0, none⟩) l.length c ∧ base ≤ g ∧ StB w g l tl := by
  obtain ⟨h1, h2⟩ := h
  rcases h2 with ⟨h2, h3⟩ | ⟨g, cap, cur, he, hb, hh, hc, hm, hs, ht⟩
  · exact .inl ⟨List.eq_nil_of_length_eq_zero h3, h2⟩
  · refine .inr ⟨g, cap, cur.toList.drop (l.length * 2), he, hb, ?_⟩
    have e : encS l ++ cur.toList.drop (l.length * 2) = cur.toList := by
      rw [enc2_map] at ht
      rw [← ht]
      exact List.take_append_drop _ _
    show w.heap[g]? = some (.cells (encS l ++ cur.toList.drop (l.length * 2)).toArray 102 (0, 0))
    rw [e]
    exact hh

/-- a row sorted -/
theorem AtI.sorted {w wr w' : World} {N : Nat} {hd : Bool} {A F : Value} {bx bt base g c : Nat} {vs : List Value} {R : List (List Stp)} (h : AtI w wr N hd A F bx bt base vs R) {v : Nat} (hv : v < N) {tl : List Value} (hg : gv vs v = .slice (some ⟨g, 0, none⟩) (gr R v).length c) (hb : base ≤ g) (hS0 : StB wr g (gr R v) tl) (hq : Pm wr w' g (gr R v) tl) :
    ∃ l', l'.Perm (gr R v) ∧ AtI w w' N hd A F bx bt base vs (R.set v l') ∧ Fr (AtS bt base) wr w' := by
  obtain ⟨⟨l', hp, hS⟩, hF⟩ := hq
  have h1 := h.hi
  have h2 := h.lo2
  have h3 := h.lo
  have hne : ∀ k, k < w.heap.size + 4 → ¬ OneB g k := fun k hk hs => by have : k = g := hs; omega
  refine ⟨l', hp, ⟨h.below.trans (hF.below h.below.size fun k hk => hne k (by omega)), h.lo, h.lo2, h.ne, ⟨h1.1, Nat.le_trans h1.2 hF.size⟩, h.box.fr hF (hne _ (by omega)), h.res.fr hF (hne _ (by omega)), h.sk.fr hF (hne _ h3.2), h.top.fr hF (hne _ h2.2),
    h.rows.sorted (by rw [h.len]; exact hv) hg hp hS0 hS hF, by rw [List.length_set]; exact h.len⟩, hF.mono fun k _ hk => .inr (by have : k = g := hk; omega)⟩

end Go.Proofs.Ythbffhlfdjpfaaa
