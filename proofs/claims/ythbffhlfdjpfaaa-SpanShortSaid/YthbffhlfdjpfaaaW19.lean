/- A flow that is worth most: by fastest ways, as long as they are within the horizon. -/
import Derived.Test.YthbffhlfdjpfaaaMo
import Derived.Test.YthbffhlfdjpfaaaW13
import Derived.Test.YthbffhlfdjpfaaaW12
import Derived.Test.YthbffhlfdjpfaaaW11
namespace Go.Proofs.Ythbffhlfdjpfaaa
set_option linter.unusedVariables false
set_option linter.unusedSimpArgs false
open Go.RowKit

structure FilI (w wr : World) (L : List Arc) (N : Nat) (hd : Bool) (A : Option Addr) (c : Nat) (s t h : Int) (f : List Int) : Prop where
  below : Below w.heap.size w wr
  box : Blk wr w.heap.size 24 [.int .i64 (N : Int), .bool hd, .slice A L.length c]
  res : Blk wr (w.heap.size + 1) 93 [.slice none 0 0, .slice none 0 0, .slice none 0 0]
  blk : Blk wr (w.heap.size + 2) 3 (encI f)
  net : Net L N f
  bal : Balanced L.length N (frs L) (tos L) s t (fls f)
  pot : ∃ p, Feas L.length (frs L) (tos L) (caps L) (fls f) (tms L) p ∧ p t - p s ≤ h + 1

/-- all that arcs take -/
def capTot (L : List Arc) : Int := sumTo L.length (caps L)

theorem fls_zero (n : Nat) : fls (List.replicate n 0) = fun _ => 0 := by
  funext i
  simp [fls, List.getD_eq_getElem?_getD, List.getElem?_replicate]
  split <;> rfl
theorem bal_zero (m : Nat) (fr tt : Nat → Int) (v : Int) : Go.Proofs.Ythbffhlfdjpfaaa.bal m fr tt (fun _ => 0) v = 0 := sumTo_zero fun i _ => by simp
theorem FilI.start {w : World} {L : List Arc} {N : Nat} {hd : Bool} {A : Option Addr} {c : Nat} {s t h : Int} (hR : Right L N) (h0 : 0 ≤ h) {wr : World} (hb : Below w.heap.size w wr) (h1 : Blk wr w.heap.size 24 [.int .i64 (N : Int), .bool hd, .slice A L.length c])
    (h2 : Blk wr (w.heap.size + 1) 93 [.slice none 0 0, .slice none 0 0, .slice none 0 0]) (h3 : Blk wr (w.heap.size + 2) 3 (List.replicate L.length (.int .i64 0))) : FilI w wr L N hd A c s t h (List.replicate L.length 0) := by
  refine ⟨hb, h1, h2, by simpa [encI] using h3, hR.net (by simp) (fun i hi => by rw [fls_zero]; have := hR.arcs.cap i hi; exact ⟨by simp, this.1⟩), fun v _ _ _ => by rw [fls_zero]; exact bal_zero .., fun _ => 0, fun st ho => ?_, by simp; omega⟩
  have h4 := ho.2
  rw [fls_zero] at h4
  have h5 := hR.arcs.tm _ ho.1
  show (0 : Int) ≤ 0 + stm _ st
  unfold room at h4
  unfold stm
  cases hb : st.back <;> simp only [hb, if_true, if_false, Bool.false_eq_true] at h4 ⊢ <;> omega

def FillPost (w : World) (L : List Arc) (N : Nat) (s t h : Int) (e : Ending) (w' : World) : Prop :=
  ∃ (bF bD bI bB : Nat) (f : List Int), e = .returned (.tuple #[.slice (some ⟨bF, 0, none⟩) L.length L.length, .agg #[.slice (some ⟨bD, 0, none⟩) N N, .slice (some ⟨bI, 0, none⟩) N N, .slice (some ⟨bB, 0, none⟩) N N]]) ∧ w.heap.size ≤ bF ∧ Blk w' bF 3 (encI f) ∧ f.length = L.length ∧
    Bst L.length N (frs L) (tos L) (caps L) (tms L) s t (h + 1) (fls f) ∧ Below w.heap.size w w'

theorem FilI.from {w wr : World} {L : List Arc} {N : Nat} {hd : Bool} {A : Option Addr} {c : Nat} {s : Nat} {t h : Int} {f : List Int} {okA : Nat → Prop} (hI : FilI w wr L N hd A c (s : Int) t h f) (hA : RdA w okA A L) (hc : L.length ≤ c) (hs : s < N) :
    Calls Try.prog 108 #[.agg #[.int .i64 (N : Int), .bool hd, .slice A L.length c], .slice (some ⟨w.heap.size + 2, 0, none⟩) L.length L.length, .int .i64 (s : Int)] wr (ReachPost wr L N f (s : Int)) := by
  obtain ⟨p, hp, _⟩ := hI.pot
  have hF := hI.blk.rdI (ok := fun k => k = w.heap.size + 2) rfl
  have h := from2_calls hd c L.length s p hI.net (hA.fr (Fr.of_below (S := NoB) hI.below) (fun _ _ h => h)) hF hc hs hp
  rwa [hI.net.flen] at h

theorem FilI.done {w wr : World} {L : List Arc} {N : Nat} {hd : Bool} {A : Option Addr} {c : Nat} {s t h : Int} {f : List Int} (hI : FilI w wr L N hd A c s t h f) {D : List Int} {I : List Bool} {B : List Stp}
    (hbf : BFI L.length N (frs L) (tos L) (caps L) (fls f) (tms L) s (lI D) (lB I) (lS B)) (htt : ∀ st, Ok L.length (caps L) (fls f) st → Tt (frs L) (tos L) (tms L) (lI D) (lB I) st) (hend : lB I t = false ∨ h < lI D t) :
    Bst L.length N (frs L) (tos L) (caps L) (tms L) s t (h + 1) (fls f) := by
  obtain ⟨p, hp, hp2⟩ := hI.pot
  obtain ⟨q, q1, q2, q3, q4⟩ := hbf.exts hp htt hI.net.ends hI.net.tm t (h + 1)
  obtain ⟨r, r1, r2⟩ := feas_just (s := s) (t := t) (h := h + 1) hp q1 hp2 (by
    cases ht : lB I t
    · have := q4 ht; omega
    · rcases hend with he | he
      · rw [ht] at he; cases he
      · have := q2 t ht; omega)
  exact ⟨hI.net.flow, hI.bal, r, r1, r2⟩

/-- behind a fastest way -/
structure Rou (L : List Arc) (N : Nat) (s t h : Int) (f : List Int) (l : List Stp) (k : Int) : Prop where
  pos : 0 < l.length
  len : l.length ≤ 50
  arc : ∀ st, st ∈ l → st.arc < L.length
  nodup : (l.map (·.arc)).Nodup
  k0 : 0 < k
  room : ∀ st, st ∈ l → k ≤ room (caps L) (fls f) st
  flow : IsFlow L.length (caps L) (fls (goAll f l k))
  bal : Balanced L.length N (frs L) (tos L) s t (fls (goAll f l k))
  pot : ∃ p, Feas L.length (frs L) (tos L) (caps L) (fls (goAll f l k)) (tms L) p ∧ p t - p s ≤ h + 1
  val : Go.Proofs.Ythbffhlfdjpfaaa.bal L.length (frs L) (tos L) (fls (goAll f l k)) s = Go.Proofs.Ythbffhlfdjpfaaa.bal L.length (frs L) (tos L) (fls f) s + k

theorem FilI.round {w wr : World} {L : List Arc} {N : Nat} {hd : Bool} {A : Option Addr} {c : Nat} {s t h : Int} {f : List Int} (hI : FilI w wr L N hd A c s t h f) {D : List Int} {I : List Bool} {B : List Stp}
    (hbf : BFI L.length N (frs L) (tos L) (caps L) (fls f) (tms L) s (lI D) (lB I) (lS B)) (htt : ∀ st, Ok L.length (caps L) (fls f) st → Tt (frs L) (tos L) (tms L) (lI D) (lB I) st) (hst : s ≠ t) (hit : lB I t = true) (hdt : lI D t ≤ h)
    {n : Nat} (han : Anc (frs L) (tos L) (lS B) s n t) :
    Rou L N s t h f (bkw (frs L) (tos L) (lS B) n t).reverse (leastF (caps L) (fls f) (Go.Proofs.Ythbffhlfdjpfaaa.room (caps L) (fls f) (stp (bkw (frs L) (tos L) (lS B) n t).reverse 0)) (bkw (frs L) (tos L) (lS B) n t).reverse.tail) := by
  obtain ⟨p, hp, hp2⟩ := hI.pot
  obtain ⟨q, q1, q2, q3, q4⟩ := hbf.exts hp htt hI.net.ends hI.net.tm t (h + 1)
  obtain ⟨b1, b2, b3⟩ := hbf.back htt hit han
  have b4 := hbf.back_nodup htt hit han
  have hn := hbf.anc_lt hp hit han
  have hN := hI.net.n1
  have hlen : (bkw (frs L) (tos L) (lS B) n t).reverse.length = n := by rw [List.length_reverse, bkw_len]
  have hn0 : 0 < n := by
    cases n with
    | zero => exact absurd (show t = s from han).symm hst
    | succ n => omega
  generalize hl : (bkw (frs L) (tos L) (lS B) n t).reverse = l at *
  have hmem : ∀ st, st ∈ l → Tight (frs L) (tos L) (tms L) (lI D) (lB I) st := fun st hm => b2 st (by rw [← hl] at hm; simpa using hm)
  have hok : ∀ st, st ∈ l → Ok L.length (caps L) (fls f) st := b1.2
  obtain ⟨k1, k2⟩ := least_way (cap := caps L) (f := fls f) (l := l) (by omega) fun st hm => (hok st hm).2
  generalize leastF (caps L) (fls f) (Go.Proofs.Ythbffhlfdjpfaaa.room (caps L) (fls f) (stp l 0)) l.tail = k at *
  have harc : ∀ st, st ∈ l → st.arc < L.length := fun st hm => (hok st hm).1
  have hgo : fls (goAll f l k) = pushAll (fls f) l k := fls_goAll (fun st hm => by rw [hI.net.flen]; exact harc st hm) k
  refine ⟨by omega, by omega, harc, b4, k1, k2, ?_, ?_, ?_, ?_⟩
  · rw [hgo]; exact flow_pushAll hI.net.flow (by omega) b4 k2
  · rw [hgo]; exact balanced_pushAll hI.bal harc b1.1 k
  · refine ⟨q, ?_, ?_⟩
    · rw [hgo]
      refine feas_push q1 b4 (fun st hm => ⟨hok st hm, ?_⟩) (by omega)
      obtain ⟨t1, t2, t3⟩ := hmem st hm
      rw [q2 _ t1, q2 _ t2, t3]
    · have := q2 t hit; omega
  · rw [hgo]; exact value_pushAll hst harc b1.1 k

theorem Rou.fl {L : List Arc} {N : Nat} {s t h : Int} {f : List Int} {l : List Stp} {k : Int} (hR : Rou L N s t h f l k) (hf : f.length = L.length) {j : Nat} (hj : j < l.length) : fls (goAll f (l.take j) k) (stp l j).arc = fls f (stp l j).arc := by
  rw [fls_goAll (fun st hm => by rw [hf]; exact hR.arc st (List.mem_of_mem_take hm))]
  refine pushAll_off fun st hm => ?_
  intro e
  have hn := hR.nodup
  rw [← List.take_append_drop j l, List.map_append, List.nodup_append] at hn
  refine hn.2.2 st.arc (List.mem_map_of_mem hm) st.arc ?_ rfl
  rw [List.drop_eq_getElem_cons hj, e]
  have : stp l j = l[j] := by simp [stp, List.getD_eq_getElem?_getD, List.getElem?_eq_getElem hj]
  rw [this]
  exact List.mem_map.2 ⟨_, List.mem_cons_self .., rfl⟩
theorem goAll_snoc (f : List Int) (l : List Stp) (st : Stp) (k : Int) : goAll f (l ++ [st]) k = goF (goAll f l k) st k := by simp [goAll]
theorem capTot_le {L : List Arc} {N : Nat} {f : List Int} (hN : Net L N f) (s : Int) : Go.Proofs.Ythbffhlfdjpfaaa.bal L.length (frs L) (tos L) (fls f) s ≤ capTot L := by
  refine Int.le_trans (value_le_out hN.flow s) (sumTo_le fun i hi => ?_)
  have := hN.cap i hi
  split <;> omega

theorem FilI.step {w wr w1 : World} {L : List Arc} {N : Nat} {hd : Bool} {A : Option Addr} {c : Nat} {s t h : Int} {f : List Int} (hI : FilI w wr L N hd A c s t h f) (hb1 : Below wr.heap.size wr w1) : FilI w w1 L N hd A c s t h f :=
  ⟨below_then' hI.below hb1, hI.box.below hb1, hI.res.below hb1, hI.blk.below hb1, hI.net, hI.bal, hI.pot⟩
theorem StB.rdS {w : World} {b : Nat} {l : List Stp} {tl : List Value} (h : StB w b l tl) {ok : Nat → Prop} (hb : ok b) : RdS w ok (some ⟨b, 0, none⟩) l := fun _ hi =>
  ⟨b, 0, rfl, hb, by rw [Nat.zero_add]; exact h.cell0 hi, by rw [Nat.zero_add]; exact h.cell1 hi⟩

/-- within the push along a way: the first j steps are gone -/
structure FlP (w wr : World) (L : List Arc) (N : Nat) (hd : Bool) (A : Option Addr) (c : Nat) (T : Value) (bX g : Nat) (f : List Int) (l : List Stp) (tl : List Value) (k : Int) (j : Nat) : Prop where
  below : Below w.heap.size w wr
  box : Blk wr w.heap.size 24 [.int .i64 (N : Int), .bool hd, .slice A L.length c]
  res : Blk wr (w.heap.size + 1) 93 [.slice none 0 0, .slice none 0 0, .slice none 0 0]
  x : Blk wr bX 137 [.int .i64 (N : Int), .bool hd, .slice A L.length c, .slice (some ⟨w.heap.size + 2, 0, none⟩) L.length L.length, T]
  way : StB wr g l tl
  blk : Blk wr (w.heap.size + 2) 3 (encI (goAll f (l.take j) k))
  lo : w.heap.size + 2 < bX ∧ w.heap.size + 2 < g
theorem FlP.step {w wr w1 : World} {L : List Arc} {N : Nat} {hd : Bool} {A : Option Addr} {c : Nat} {T : Value} {bX g : Nat} {f : List Int} {l : List Stp} {tl : List Value} {k : Int} {j : Nat} (h : FlP w wr L N hd A c T bX g f l tl k j) (hb : Below wr.heap.size wr w1) : FlP w w1 L N hd A c T bX g f l tl k j :=
  ⟨below_then' h.below hb, h.box.below hb, h.res.below hb, h.x.below hb, Blk.below h.way hb, h.blk.below hb, h.lo⟩
theorem FlP.go {w wr w1 : World} {L : List Arc} {N : Nat} {hd : Bool} {A : Option Addr} {c : Nat} {T : Value} {bX g : Nat} {f : List Int} {l : List Stp} {tl : List Value} {k : Int} {j : Nat} (h : FlP w wr L N hd A c T bX g f l tl k j) (hf : Fr (OneB (w.heap.size + 2)) wr w1) (hj : j < l.length) (hb : Blk w1 (w.heap.size + 2) 3 (encI (goF (goAll f (l.take j) k) (stp l j) k))) : FlP w w1 L N hd A c T bX g f l tl k (j + 1) := by
  obtain ⟨l1, l2⟩ := h.lo
  refine ⟨h.below.trans (hf.below h.below.size fun i hi e => by simp only [OneB] at e; omega), h.box.fr hf (by simp only [OneB]; omega), h.res.fr hf (by simp only [OneB]; omega), h.x.fr hf (by simp only [OneB]; omega), Blk.fr h.way hf (by simp only [OneB]; omega), ?_, h.lo⟩
  rw [take_stp l j hj, goAll_snoc]
  exact hb

set_option maxRecDepth 10000 in
set_option maxHeartbeats 1000000 in
theorem fill_calls {w : World} {okA : Nat → Prop} {A : Option Addr} {L : List Arc} {N : Nat} (hd : Bool) (c s t : Nat) (h : Int) (hR : Right L N) (hA : RdA w okA A L) (hc : L.length ≤ c) (hs : s < N) (ht : t < N) (hst : s ≠ t) (h0 : 0 ≤ h) (h1 : h ≤ 1024) :
    Calls Try.prog 70 #[.agg #[.int .i64 (N : Int), .bool hd, .slice A L.length c], .int .i64 (s : Int), .int .i64 (t : Int), .int .i64 h] w (FillPost w L N (s : Int) (t : Int) h) := by
  have hL := hR.len
  have hN := hR.n1
  have hmk1 := mk1 (P := Try.prog) 25 3 (.int .i64 0) 8 Try.underlying25 info3 rfl (by omega) L.length (by omega)
  have HR := Lib.hid hR
  have HA := Lib.hid hA
  have HST := Lib.hid hst
  clear hR hA hst
  go_enter Try.func70, Try.ntmps70
  go_wp2
  go_step3
  go_wp2
  go_step3
  go_wp2
  go_loopg [] ((capTot L).toNat + 1) (fun k wr => ∃ f, Hid (FilI w wr L N hd A c (s : Int) (t : Int) h f) ∧ (capTot L - Go.Proofs.Ythbffhlfdjpfaaa.bal L.length (frs L) (tos L) (fls f) (s : Int)).toNat ≤ k)
  case atStart =>
    refine ⟨List.replicate L.length 0, FilI.start HR.out h0 ?_ ?_ ?_ ?_, ?_⟩
    · exact Below.alloc (Below.alloc (Below.alloc (Below.refl _ _) (Nat.le_refl _) _) (by simp) _) (by simp; omega) _
    · exact ((Blk.new w [_, _, _] 24).alloc _).alloc _
    · exact (Blk.new' (w := w.alloc _) (by simp) [_, _, _] 93).alloc _
    · exact Blk.made' (by simp) _ _ 3
    · rw [fls_zero, bal_zero]; omega
  case round =>
    obtain ⟨f, hI, hk⟩ := hrel
    have HF := Lib.hid (hI.out.from HA.out hc hs)
    have x0 := hI.out.box.cell 0 rfl
    have x1 := hI.out.box.cell 1 rfl
    have x2 := hI.out.box.cell 2 rfl
    have xl := hI.out.box.lt
    go_wp2_with fail
    refine HF.out.mono ?_
    rintro e w1 ⟨bD, bI, bB, D, I, B, rfl, hD, hIs, hB, lD, lI', lB', hbf, htt, hb1, l1, l2, l3⟩
    have cI : w1.cell? ⟨bI, t, none⟩ = some (.bool (lB I (t : Int))) := hIs.cell t (by rw [lB_nat]; simp [encB, List.getElem?_eq_getElem (show t < I.length by omega), List.getD_eq_getElem?_getD])
    have cD : w1.cell? ⟨bD, t, none⟩ = some (.int .i64 (lI D (t : Int))) := hD.cell t (by rw [lI_nat]; simp [encI, List.getElem?_eq_getElem (show t < D.length by omega), List.getD_eq_getElem?_getD])
    have i1 := hD.lt
    have i2 := hIs.lt
    have i3 := hB.lt
    obtain ⟨dt, hdt⟩ : ∃ d, lI D (t : Int) = d := ⟨_, rfl⟩
    obtain ⟨bt, hbt⟩ : ∃ b, lB I (t : Int) = b := ⟨_, rfl⟩
    rw [hdt] at cD
    rw [hbt] at cI
    have hI1 : FilI w w1 L N hd A c (s : Int) (t : Int) h f := ⟨below_then' hI.out.below hb1, hI.out.box.below hb1, hI.out.res.below hb1, hI.out.blk.below hb1, hI.out.net, hI.out.bal, hI.out.pot⟩
    have HI1 := Lib.hid hI1
    have HDT := Lib.hid hdt
    have HBT := Lib.hid hbt
    have HD := Lib.hid hD
    have HIs := Lib.hid hIs
    have HBB := Lib.hid hB
    have LD := Lib.hid lD
    have LI := Lib.hid lI'
    have LB := Lib.hid lB'
    have HBF := Lib.hid hbf
    have HTT := Lib.hid htt
    have y0 := hI1.box.cell 0 rfl
    have y1 := hI1.box.cell 1 rfl
    have y2 := hI1.box.cell 2 rfl
    have yl := hI1.box.lt
    have z0 := hI1.res.cell 0 rfl
    have z1 := hI1.res.cell 1 rfl
    have z2 := hI1.res.cell 2 rfl
    have zl := hI1.res.lt
    have u0 := hI1.res.free 0
    have u1 := hI1.res.free 1
    have u2 := hI1.res.free 2
    clear hI hI1 hdt hbt hD hIs hB lD lI' lB' hbf htt hb1 x0 x1 x2 xl
    by_cases hend : bt = false ∨ h < dt
    · have HBS := Lib.hid (HI1.out.done HBF.out HTT.out (by rw [HDT.out, HBT.out]; exact hend))
      have hfin : FillPost w L N (s : Int) (t : Int) h (.returned (.tuple #[.slice (some ⟨w.heap.size + 2, 0, none⟩) L.length L.length, .agg #[.slice (some ⟨bD, 0, none⟩) N N, .slice (some ⟨bI, 0, none⟩) N N, .slice (some ⟨bB, 0, none⟩) N N]])) ((((w1.setCell ⟨w.heap.size + 1, 0, none⟩ (.slice (some ⟨bD, 0, none⟩) N N)).setCell ⟨w.heap.size + 1, 1, none⟩ (.slice (some ⟨bI, 0, none⟩) N N)).setCell ⟨w.heap.size + 1, 2, none⟩ (.slice (some ⟨bB, 0, none⟩) N N)).alloc (.cells #[.slice (some ⟨bD, 0, none⟩) N N, .slice (some ⟨bI, 0, none⟩) N N, .slice (some ⟨bB, 0, none⟩) N N] 93)).drew := by
        refine ⟨w.heap.size + 2, bD, bI, bB, f, rfl, by omega, ?_, HI1.out.net.flen, HBS.out, ?_⟩
        · exact ((((HI1.out.blk.far (show w.heap.size + 2 ≠ w.heap.size + 1 by omega) _).far (show w.heap.size + 2 ≠ w.heap.size + 1 by omega) _).far (show w.heap.size + 2 ≠ w.heap.size + 1 by omega) _).alloc _).drew
        · have h3 := ((HI1.out.below.setCell (p := ⟨w.heap.size + 1, 0, none⟩) (by simp) (.slice (some ⟨bD, 0, none⟩) N N)).setCell (p := ⟨w.heap.size + 1, 1, none⟩) (by simp) (.slice (some ⟨bI, 0, none⟩) N N)).setCell (p := ⟨w.heap.size + 1, 2, none⟩) (by simp) (.slice (some ⟨bB, 0, none⟩) N N)
          exact (h3.alloc h3.size _).drew
      have hres := (((((HI1.out.res.set 0 (.slice (some ⟨bD, 0, none⟩) N N)).set 1 (.slice (some ⟨bI, 0, none⟩) N N)).set 2 (.slice (some ⟨bB, 0, none⟩) N N)).alloc (.cells #[.slice (some ⟨bD, 0, none⟩) N N, .slice (some ⟨bI, 0, none⟩) N N, .slice (some ⟨bB, 0, none⟩) N N] 93)).drew)
      have HFIN := Lib.hid hfin
      have HRES := Lib.hid hres
      clear hfin hres
      by_cases hb0 : bt = false
      · subst hb0
        clear hend
        go_wp2
        go_region
        all_goals
          have c0 := HRES.out.cell 0 rfl
          have c1 := HRES.out.cell 1 rfl
          have c2 := HRES.out.cell 2 rfl
          go_wp2
          refine bodyPost_ret (v := .tuple #[.slice (some ⟨w.heap.size + 2, 0, none⟩) L.length L.length, .agg #[.slice (some ⟨bD, 0, none⟩) N N, .slice (some ⟨bI, 0, none⟩) N N, .slice (some ⟨bB, 0, none⟩) N N]]) ?_ rfl HFIN.out
          simp only [results, Try.results70]
          simp [go_sem, c0, c1, c2]
      · have hb1 : bt = true := by simpa using hb0
        subst hb1
        have hdh : h < dt := hend.resolve_left (by simp)
        clear hend
        go_wp2
        go_region
        all_goals
          have c0 := HRES.out.cell 0 rfl
          have c1 := HRES.out.cell 1 rfl
          have c2 := HRES.out.cell 2 rfl
          go_wp2
          refine bodyPost_ret (v := .tuple #[.slice (some ⟨w.heap.size + 2, 0, none⟩) L.length L.length, .agg #[.slice (some ⟨bD, 0, none⟩) N N, .slice (some ⟨bI, 0, none⟩) N N, .slice (some ⟨bB, 0, none⟩) N N]]) ?_ rfl HFIN.out
          simp only [results, Try.results70]
          simp [go_sem, c0, c1, c2]
    · have hb1 : bt = true := by cases hq : bt; exact absurd (.inl hq) hend; rfl
      have hdh : dt ≤ h := by rw [not_or] at hend; omega
      subst hb1
      clear hend
      have hat : ∀ W : World, Below w.heap.size w W → Calls Try.prog 109 #[.agg #[.int .i64 (N : Int), .bool hd, .slice A L.length c], .slice (some ⟨w.heap.size + 2, 0, none⟩) L.length L.length] W (AtPost W N hd (.slice A L.length c) (.slice (some ⟨w.heap.size + 2, 0, none⟩) L.length L.length) L) :=
        fun W hb => at_calls N hd c _ (HA.out.fr (Fr.of_below (S := NoB) hb) (fun _ _ h => h)) HR.out.len HR.out.n1 hc (fun i hi => (HR.out.arcs.ends i hi).1) (fun i hi => (HR.out.arcs.ends i hi).2) _ _ _ rfl
      have HAT := Lib.hid hat
      clear hat
      go_wp2_with fail
      refine (HAT.out _ (HI1.out.below.alloc HI1.out.below.size _)).mono ?_
      rintro e w2 ⟨bt2, R, rfl, hR2, hb2⟩
      have hq1 := (Blk.new w1 [.slice (some ⟨bD, 0, none⟩) N N, .slice (some ⟨bI, 0, none⟩) N N, .slice (some ⟨bB, 0, none⟩) N N] 93).below hb2
      have hI2 := (HI1.out.step one_new).step hb2
      have hB2 := (HBB.out.alloc (.cells #[.slice (some ⟨bD, 0, none⟩) N N, .slice (some ⟨bI, 0, none⟩) N N, .slice (some ⟨bB, 0, none⟩) N N] 93)).below hb2
      have v0 := hq1.cell 0 rfl
      have v1 := hq1.cell 1 rfl
      have v2 := hq1.cell 2 rfl
      have vl := hq1.lt
      have HQ1 := Lib.hid hq1
      have HI2 := Lib.hid hI2
      have HB2 := Lib.hid hB2
      clear hq1 hI2 hB2 hR2 hb2 y0 y1 y2 yl z0 z1 z2 zl u0 u1 u2 cI cD i1 i2 i3
      obtain ⟨n, han⟩ := HBF.out.anc _ HBT.out
      have hnN := HBF.out.anc_lt (HI1.out.pot.choose_spec.1) HBT.out han
      have hn0 : 0 < n := by
        cases n with
        | zero => exact absurd (show (t : Int) = (s : Int) from han) (by have := HST.out; omega)
        | succ n => omega
      have HRO := Lib.hid (HI1.out.round HBF.out HTT.out (by have := HST.out; omega) HBT.out (by rw [HDT.out]; exact hdh) han)
      have hfa : ∀ W : World, Below w2.heap.size w2 W → Calls Try.prog 110 #[.agg #[.int .i64 (N : Int), .bool hd, .slice A L.length c, .slice (some ⟨w.heap.size + 2, 0, none⟩) L.length L.length, .slice (some ⟨bt2, 0, none⟩) N N], .agg #[.slice (some ⟨bD, 0, none⟩) N N, .slice (some ⟨bI, 0, none⟩) N N, .slice (some ⟨bB, 0, none⟩) N N], .int .i64 (s : Int), .int .i64 (t : Int)] W fun e w' =>
          ∃ g c tl, e = .returned (.slice (some ⟨g, 0, none⟩) n c) ∧ n ≤ c ∧ StB w' g (bkw (frs L) (tos L) (lS B) n (t : Int)).reverse tl ∧ W.heap.size ≤ g ∧ Below W.heap.size W w' :=
        fun W hb => fastest_calls hd c s t n _ _ bD bI bB (HA.out.fr (Fr.of_below (S := NoB) (below_then' HI2.out.below hb)) (fun _ _ h => h)) HR.out.len HR.out.n1 (HB2.out.below hb) LB.out HBF.out HBT.out han hn0 (by omega)
      have HFA := Lib.hid hfa
      have hlen : (bkw (frs L) (tos L) (lS B) n (t : Int)).reverse.length = n := by rw [List.length_reverse, bkw_len]
      obtain ⟨l, hl⟩ : ∃ l, (bkw (frs L) (tos L) (lS B) n (t : Int)).reverse = l := ⟨_, rfl⟩
      rw [hl] at hlen
      simp only [hl] at HRO HFA
      have HLEN := Lib.hid hlen
      clear hfa hlen hl han
      go_wp2_with fail
      refine (HFA.out _ one_new).mono ?_
      rintro e w3 ⟨g, cg, tl, rfl, hncg, hway, hg, hb3⟩
      have hP : FlP w w3 L N hd A c (.slice (some ⟨bt2, 0, none⟩) N N) w2.heap.size g f l tl (leastF (caps L) (fls f) (Go.Proofs.Ythbffhlfdjpfaaa.room (caps L) (fls f) (stp l 0)) l.tail) 0 := by
        have hsz := HI2.out.below.size
        have hI3 := (HI2.out.step (one_new (o1 := .cells #[.int .i64 (N : Int), .bool hd, .slice A L.length c, .slice (some ⟨w.heap.size + 2, 0, none⟩) L.length L.length, .slice (some ⟨bt2, 0, none⟩) N N] 137))).step hb3
        have hlt := HI2.out.blk.lt
        simp at hg
        exact ⟨hI3.below, hI3.box, hI3.res, (Blk.new w2 [_, _, _, _, _] 137).below hb3, hway, hI3.blk, by omega, by omega⟩
      have hl50 := HRO.out.len
      have hl0 := HRO.out.pos
      have hle : Calls Try.prog 111 #[.agg #[.int .i64 (N : Int), .bool hd, .slice A L.length c, .slice (some ⟨w.heap.size + 2, 0, none⟩) L.length L.length], .slice (some ⟨g, 0, none⟩) l.length cg] w3 fun e w' => e = .returned (.int .i64 (leastF (caps L) (fls f) (Go.Proofs.Ythbffhlfdjpfaaa.room (caps L) (fls f) (stp l 0)) l.tail)) ∧ Below w3.heap.size w3 w' := by
        have h := least_calls (N : Int) hd c L.length cg (HA.out.fr (Fr.of_below (S := NoB) hP.below) (fun _ _ h => h)) HR.out.len (hP.blk.rdI (ok := fun k => k = w.heap.size + 2) rfl) HI1.out.net.flen (hP.way.rdS (ok := fun k => k = g) rfl) hl0 (by omega) (by rw [HLEN.out]; exact hncg)
          (fun i hi => HRO.out.arc _ (stp_mem hi)) HI1.out.net.cap HI1.out.net.flow
        rw [show (goAll f (List.take 0 l) (leastF (caps L) (fls f) (Go.Proofs.Ythbffhlfdjpfaaa.room (caps L) (fls f) (stp l 0)) l.tail)) = f from rfl] at h
        rwa [HI1.out.net.flen] at h
      rw [HLEN.out] at hle hl50 hl0
      obtain ⟨k, hk'⟩ : ∃ k, leastF (caps L) (fls f) (Go.Proofs.Ythbffhlfdjpfaaa.room (caps L) (fls f) (stp l 0)) l.tail = k := ⟨_, rfl⟩
      rw [hk'] at hP hle
      simp only [hk'] at HRO
      have hkb : 0 ≤ k ∧ k ≤ 1048576 := by
        have h1 := HRO.out.k0
        have h2 := HRO.out.room _ (stp_mem HRO.out.pos)
        have h3 := HI1.out.net.cap _ (HRO.out.arc _ (stp_mem HRO.out.pos))
        have h4 := HI1.out.net.flow _ (HRO.out.arc _ (stp_mem HRO.out.pos))
        unfold Go.Proofs.Ythbffhlfdjpfaaa.room at h2
        split at h2 <;> omega
      obtain ⟨hk0, hk1⟩ := hkb
      have HLE := Lib.hid hle
      have HP := Lib.hid hP
      have y0 := hP.x.cell 0 rfl
      have y1 := hP.x.cell 1 rfl
      have y2 := hP.x.cell 2 rfl
      have y3 := hP.x.cell 3 rfl
      have yl := hP.x.lt
      clear hle hk' hP hway hb3 v0 v1 v2 vl
      go_wp2_with fail
      refine HLE.out.mono ?_
      rintro e w4 ⟨rfl, hb4⟩
      have HP4 := Lib.hid (HP.out.step hb4)
      clear hb4 y0 y1 y2 y3 yl
      go_wp2
      go_loopw [60] (fun i wr => ∃ j : Nat, j ≤ n ∧ i = .int .i64 j ∧ Hid (FlP w wr L N hd A c (.slice (some ⟨bt2, 0, none⟩) N N) w2.heap.size g f l tl k j)) (fun i _ => n - (intOf i).toNat)
      case atStart => exact ⟨0, Nat.zero_le _, rfl, HP4⟩
      case round =>
        clear HP HP4
        obtain ⟨j, hj, rfl, hP⟩ := hrel
        have y0 := hP.out.x.cell 0 rfl
        have y1 := hP.out.x.cell 1 rfl
        have y2 := hP.out.x.cell 2 rfl
        have y3 := hP.out.x.cell 3 rfl
        have yl := hP.out.x.lt
        by_cases hlt : j < n
        · have hjl : j < l.length := by rw [HLEN.out]; exact hlt
          have s0 := hP.out.way.cell0 hjl
          have s1 := hP.out.way.cell1 hjl
          have sl := Blk.lt hP.out.way
          have hgo : ∀ W : World, Below wr.heap.size wr W → Calls Try.prog 112 #[.agg #[.int .i64 (N : Int), .bool hd, .slice A L.length c, .slice (some ⟨w.heap.size + 2, 0, none⟩) L.length L.length], .agg #[.int .i64 ((stp l j).arc : Int), .bool (stp l j).back], .int .i64 k] W fun e w' => e = .returned (.tuple #[]) ∧ Blk w' (w.heap.size + 2) 3 (encI (goF (goAll f (l.take j) k) (stp l j) k)) ∧ Fr (OneB (w.heap.size + 2)) W w' := by
            intro W hb
            have harc := HRO.out.arc _ (stp_mem hjl)
            have hfl := HRO.out.fl HI1.out.net.flen hjl
            have hf1 := HI1.out.net.flow _ harc
            have hf2 := HI1.out.net.cap _ harc
            have h := go_calls (N : Int) hd L.length c L.length (w.heap.size + 2) (A := A) (stp l j) k ((hP.out.step hb).blk) (by rw [goAll_len, HI1.out.net.flen]; exact harc) (by rw [goAll_len, HI1.out.net.flen]; exact HR.out.len) ⟨hk0, hk1⟩ (by rw [hfl]; omega)
            rwa [goAll_len, HI1.out.net.flen] at h
          have HGO := Lib.hid hgo
          have HJL := Lib.hid hjl
          clear hgo hjl
          go_wp2_with fail
          refine (HGO.out _ one_new).mono ?_
          rintro e w5 ⟨rfl, hbk, hfr⟩
          have HN := Lib.hid ((hP.out.step one_new).go hfr HJL.out hbk)
          clear hbk hfr y0 y1 y2 y3 yl s0 s1 sl hP
          go_wp2
          go_roundw
          case rel => exact ⟨j + 1, by omega, by go_num, HN⟩
          case measure => simp [intOf]; omega
        · have hjn : j = n := by omega
          have HE := Lib.hid (show FilI w wr L N hd A c (s : Int) (t : Int) h (goAll f l k) ∧ Go.Proofs.Ythbffhlfdjpfaaa.bal L.length (frs L) (tos L) (fls (goAll f l k)) (s : Int) = Go.Proofs.Ythbffhlfdjpfaaa.bal L.length (frs L) (tos L) (fls f) (s : Int) + k by
            have hb := hP.out.blk
            rw [List.take_of_length_le (by rw [HLEN.out]; omega)] at hb
            exact ⟨⟨hP.out.below, hP.out.box, hP.out.res, hb, HR.out.net (by rw [goAll_len]; exact HI1.out.net.flen) HRO.out.flow, HRO.out.bal, HRO.out.pot⟩, HRO.out.val⟩)
          go_wp2
          have q1 := capTot_le HE.out.1.net (s : Int)
          have q2 := HE.out.2
          have q3 := HRO.out.k0
          go_roundg (capTot L - Go.Proofs.Ythbffhlfdjpfaaa.bal L.length (frs L) (tos L) (fls (goAll f l k)) (s : Int)).toNat
          case measure => omega
          case rel => exact ⟨goAll f l k, HE.out.1, Nat.le_refl _⟩
end Go.Proofs.Ythbffhlfdjpfaaa
