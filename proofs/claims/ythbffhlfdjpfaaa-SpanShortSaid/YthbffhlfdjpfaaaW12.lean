/- The library's turning round of steps; the steps of a fastest way. -/
import Derived.Test.YthbffhlfdjpfaaaW9
namespace Go.Proofs.Ythbffhlfdjpfaaa
set_option linter.unusedVariables false
set_option linter.unusedSimpArgs false
open Go.RowKit

/-- k pairs from the ends on have changed places -/
def RevK (l : List Stp) (k : Nat) (l' : List Stp) : Prop := l'.length = l.length ∧ ∀ q, q < l.length → stp l' q = if q < k ∨ l.length - k ≤ q then stp l (l.length - 1 - q) else stp l q
theorem stp_swp {l : List Stp} {i j q : Nat} (hi : i < l.length) (hj : j < l.length) : stp (swp l i j) q = if q = j then stp l i else if q = i then stp l j else stp l q := by
  unfold swp
  by_cases h : q = j
  · subst h; simp [stp, List.getD_eq_getElem?_getD, hj]
  · by_cases h2 : q = i
    · subst h2; simp [stp, List.getD_eq_getElem?_getD, hi, h, Ne.symm h]
    · simp [stp, List.getD_eq_getElem?_getD, h, h2, Ne.symm h, Ne.symm h2]
theorem RevK.zero (l : List Stp) : RevK l 0 l := ⟨rfl, fun q hq => by rw [if_neg (by omega)]⟩
theorem RevK.step {l l' : List Stp} {k : Nat} (h : RevK l k l') (hk : k + 1 + k < l.length) : RevK l (k + 1) (swp l' k (l.length - 1 - k)) := by
  refine ⟨by rw [swp_len, h.1], fun q hq => ?_⟩
  rw [stp_swp (by rw [h.1]; omega) (by rw [h.1]; omega)]
  by_cases h1 : q = l.length - 1 - k
  · rw [if_pos h1, if_pos (by omega), h.2 _ (by omega), if_neg (by omega)]
    congr 1; omega
  · rw [if_neg h1]
    by_cases h2 : q = k
    · rw [if_pos h2, if_pos (by omega), h.2 _ (by omega), if_neg (by omega)]
      congr 1; omega
    · rw [if_neg h2, h.2 q hq]
      by_cases h3 : q < k ∨ l.length - k ≤ q
      · rw [if_pos h3, if_pos (by omega)]
      · rw [if_neg h3, if_neg (by omega)]
theorem RevK.done {l l' : List Stp} {k : Nat} (h : RevK l k l') (hk : l.length ≤ k + 1 + k) : l' = l.reverse := by
  apply List.ext_getElem (by simp [h.1])
  intro q h1 h2
  have h3 : q < l.length := by rw [← h.1]; exact h1
  have h4 := h.2 q h3
  have e1 : stp l' q = l'[q] := by simp [stp, List.getD_eq_getElem?_getD, List.getElem?_eq_getElem h1]
  have e2 : stp l (l.length - 1 - q) = l.reverse[q] := by
    rw [List.getElem_reverse]; simp [stp, List.getD_eq_getElem?_getD, List.getElem?_eq_getElem (show l.length - 1 - q < l.length by omega)]
  rw [← e1, ← e2, h4]
  split
  · rfl
  · congr 1; omega

set_option maxRecDepth 10000 in
set_option maxHeartbeats 1000000 in
theorem reverse_calls {w : World} {bk : Nat} {l : List Stp} {tl : List Value} (c : Nat) (hB : StB w bk l tl) (hl : l.length ≤ 1000) :
    Calls Try.prog 130 #[.slice (some ⟨bk, 0, none⟩) l.length c] w fun e w' => e = .returned (.tuple #[]) ∧ StB w' bk l.reverse tl ∧ Fr (OneB bk) w w' := by
  have HB := Lib.hid hB
  obtain ⟨n, hn⟩ : ∃ n, n = l.length := ⟨_, rfl⟩
  have HN := Lib.hid hn
  rw [← hn] at hl ⊢
  clear hB hn
  go_enter Try.func130, Try.ntmps130
  go_wp2
  go_loopw [2, 3] (fun i j wr => ∃ (k : Nat) (l' : List Stp), k ≤ n ∧ 0 ≤ (n : Int) - k ∧ i = .int .i64 k ∧ j = .int .i64 ((n : Int) - 1 - k) ∧ RevK l k l' ∧ StB wr bk l' tl ∧ Fr (OneB bk) w wr) (fun i _ _ => n - (intOf i).toNat)
  case atStart => exact ⟨0, l, Nat.zero_le _, by omega, rfl, by congr 1; omega, RevK.zero l, HB.out, Fr.refl _ _⟩
  case round =>
    obtain ⟨k, l', hk, hk', rfl, rfl, hp, hB, hF⟩ := hrel
    have hlen : l'.length = n := by rw [hp.1, HN.out]
    by_cases hlt : (k : Int) < (n : Int) - 1 - k
    · obtain ⟨j, hj⟩ : ∃ j : Nat, (n : Int) - 1 - k = (j : Int) := ⟨n - 1 - k, by omega⟩
      rw [hj] at hlt ⊢
      have hj2 : j < n := by omega
      have a0 := hB.cell0 (i := k) (by omega)
      have a1 := hB.cell1 (i := k) (by omega)
      have b0 := hB.cell0 (i := j) (by omega)
      have b1 := hB.cell1 (i := j) (by omega)
      have fr := fun i => Blk.free hB i
      have hbk := Blk.lt hB
      have f0 := fr (k * 2)
      have f1 := fr (k * 2 + 1)
      have f2 := fr (j * 2)
      have f3 := fr (j * 2 + 1)
      clear fr
      have HP := Lib.hid hp
      have HL := Lib.hid hlen
      have HBB := Lib.hid hB
      clear hp hlen hB
      go_wp2
      go_region
      go_wp2
      go_roundw
      case rel =>
        have ej : j = l.length - 1 - k := by have := HN.out; omega
        refine ⟨k + 1, _, by omega, by omega, by go_num, by congr 1; omega, ej ▸ HP.out.step (by have := HN.out; omega), HBB.out.swap (by rw [HL.out]; omega) (by rw [HL.out]; omega), fr_four hF⟩
      case measure => simp [intOf]; omega
    · go_wp2
      go_end0
      refine ⟨rfl, ?_, hF⟩
      rw [← hp.done (by have := HN.out; omega)]
      exact hB

/-- the steps from v back, n of them -/
def bkw (g h : Nat → Int) (By : Int → Stp) : Nat → Int → List Stp
  | 0, _ => []
  | n + 1, v => By v :: bkw g h By n (sfr g h (By v))
theorem bkw_len (g h : Nat → Int) (By : Int → Stp) (n : Nat) (v : Int) : (bkw g h By n v).length = n := by
  induction n generalizing v with
  | zero => rfl
  | succ n ih => simp [bkw, ih]
theorem own_below {w w1 : World} {base : Nat} {e : TypeId} {z : Nat} {v : Value} {n : Nat} {xs : List Value} (h : w.ownsRow base e z v n xs) (hb : Below w.heap.size w w1) : w1.ownsRow base e z v n xs := by
  obtain ⟨h1, h2⟩ := h
  refine ⟨h1, ?_⟩
  rcases h2 with h2 | ⟨g, cap, cur, he, hg, hh, r⟩
  · exact .inl h2
  · exact .inr ⟨g, cap, cur, he, hg, by rw [hb.block g (heap_lt hh)]; exact hh, r⟩
def slen : Value → Nat
  | .slice _ n _ => n
  | _ => 0

/-- the memory of the way back: the two boxes, the tree's steps, what was kept so far -/
structure FsI (w wr : World) (B : List Stp) (bB : Nat) (xv rv : List Value) (o : Value) (l : List Stp) : Prop where
  below : Below w.heap.size w wr
  x : Blk wr w.heap.size 137 xv
  r : Blk wr (w.heap.size + 1) 93 rv
  b : Blk wr bB 102 (encS B)
  own : wr.ownsRow (w.heap.size + 2) 102 2 o l.length (l.flatMap enc2)
theorem FsI.step {w wr w1 : World} {B : List Stp} {bB : Nat} {xv rv : List Value} {o : Value} {l : List Stp} (h : FsI w wr B bB xv rv o l) (hb : Below wr.heap.size wr w1) : FsI w w1 B bB xv rv o l :=
  ⟨h.below.trans (hb.mono h.below.size), h.x.below hb, h.r.below hb, h.b.below hb, own_below h.own hb⟩

set_option maxRecDepth 10000 in
set_option maxHeartbeats 1000000 in
theorem fastest_calls {w : World} {okA : Nat → Prop} {A : Option Addr} {L : List Arc} {B : List Stp} {N : Nat} {D : Int → Int} {Is : Int → Bool} {cap f : Nat → Int} (hd : Bool) (c s t n : Nat) (F T : Value) (bD bI bB : Nat) (hA : RdA w okA A L) (hL : L.length ≤ 200) (hN : N ≤ 50)
    (hBl : Blk w bB 102 (encS B)) (hlB : B.length = N) (hbf : BFI L.length N (frs L) (tos L) cap f (tms L) (s : Int) D Is (lS B)) (ht : Is (t : Int) = true) (hAn : Anc (frs L) (tos L) (lS B) (s : Int) n (t : Int)) (hn : 0 < n) (hn2 : n ≤ 50) :
    Calls Try.prog 110 #[.agg #[.int .i64 (N : Int), .bool hd, .slice A L.length c, F, T], .agg #[.slice (some ⟨bD, 0, none⟩) N N, .slice (some ⟨bI, 0, none⟩) N N, .slice (some ⟨bB, 0, none⟩) N N], .int .i64 (s : Int), .int .i64 (t : Int)] w fun e w' =>
      ∃ g c tl, e = .returned (.slice (some ⟨g, 0, none⟩) n c) ∧ n ≤ c ∧ StB w' g (bkw (frs L) (tos L) (lS B) n (t : Int)).reverse tl ∧ w.heap.size ≤ g ∧ Below w.heap.size w w' := by
  obtain ⟨i0, hi0, hzz⟩ := Option.map_eq_some_iff.1 info102
  simp only [Prod.mk.injEq] at hzz
  have HI0 := Lib.hid hi0
  have HZ0 := Lib.hid hzz
  have HA := Lib.hid hA
  have HB := Lib.hid hBl
  have HLB := Lib.hid hlB
  have HBF := Lib.hid hbf
  have HT := Lib.hid ht
  have HAN := Lib.hid hAn
  clear hi0 hzz hA hBl hlB hbf ht hAn
  go_enter Try.func110, Try.ntmps110
  go_wp2
  go_loopw [9, 10] (fun o v wr => ∃ (r u : Nat) (l : List Stp), v = .int .i64 (u : Int) ∧ u < N ∧ Is (u : Int) = true ∧ Anc (frs L) (tos L) (lS B) (s : Int) r (u : Int) ∧ r + l.length = n ∧ l ++ bkw (frs L) (tos L) (lS B) r (u : Int) = bkw (frs L) (tos L) (lS B) n (t : Int) ∧ slen o = l.length ∧
      FsI w wr B bB [.int .i64 (N : Int), .bool hd, .slice A L.length c, F, T] [.slice (some ⟨bD, 0, none⟩) N N, .slice (some ⟨bI, 0, none⟩) N N, .slice (some ⟨bB, 0, none⟩) N N] o l) (fun o _ _ => n - slen o)
  case atStart =>
    refine ⟨n, t, [], rfl, by have := HBF.out.nd _ HT.out; exact (by have := this.2; omega), HT.out, HAN.out, rfl, rfl, rfl, ?_⟩
    refine ⟨?_, ?_, ?_, ?_, ?_⟩
    · exact ((two_new (w := w)).alloc (by simp; omega) _)
    · exact (((Blk.new w _ 137).alloc _).alloc _)
    · exact ((Blk.new' (by simp) _ 93).alloc _)
    · exact (((HB.out.alloc _).alloc _).alloc _)
    · refine ⟨rfl, .inr ⟨w.heap.size + 1 + 1, 0, #[], rfl, by omega, ?_, by simp, by unfold maxLen; omega, rfl, rfl⟩⟩
      have h := heap_alloc_new ((w.alloc (Obj.cells #[Value.int IntKind.i64 ↑N, Value.bool hd, Value.slice A L.length c, F, T] 137)).alloc (Obj.cells #[Value.slice (some { block := bD, off := 0 }) N N, Value.slice (some { block := bI, off := 0 }) N N, Value.slice (some { block := bB, off := 0 }) N N] 93)) (Obj.cells #[] 102)
      simpa using h
  case round =>
    obtain ⟨r, u, l, rfl, hu, hiu, han, hrl, hch, hsl, hI⟩ := hrel
    have x0 := hI.x.cell 0 rfl
    have x1 := hI.x.cell 1 rfl
    have x2 := hI.x.cell 2 rfl
    have x3 := hI.x.cell 3 rfl
    have r2 := hI.r.cell 2 rfl
    have xl := hI.x.lt
    have rl := hI.r.lt
    have bl := hI.b.lt
    have b0 := hI.b.cell _ (encS_get B u (by rw [HLB.out]; exact hu)).1
    have b1 := hI.b.cell _ (encS_get B u (by rw [HLB.out]; exact hu)).2
    by_cases hus : u = s
    · have hr0 : r = 0 := han.uniq (show Anc (frs L) (tos L) (lS B) (s : Int) 0 (u : Int) by show (u : Int) = (s : Int); omega)
      subst hr0
      have e1 : ((u : Int) != (s : Int)) = false := by rw [bne_eq_false_iff_eq]; omega
      have hlen : l.length = n := by omega
      have hll : l = bkw (frs L) (tos L) (lS B) n (t : Int) := by rw [← hch]; simp [bkw]
      rcases own_stb hI.own with ⟨h1, _⟩ | ⟨g, cp, tl, ho, hg, hS⟩
      · subst h1; simp at hlen; omega
      · subst ho
        have gl := Blk.lt hS
        have hBW := hI.below
        have hl1000 : l.length ≤ 1000 := by omega
        have hrv := reverse_calls cp hS hl1000
        rw [hlen, hll] at hrv
        have hcp : n ≤ cp := by
          obtain ⟨A', c', e', hc', _⟩ := own_shape hI.own
          rw [Value.slice.injEq] at e'
          omega
        have HRV := Lib.hid hrv
        have HBW := Lib.hid hBW
        clear hS hll hI hch hBW hrv
        go_wp2_with (first | (go_at_call 130; refine (HRV.out).mono ?_; rintro e w2 ⟨rfl, hS2, hF2⟩))
        go_wp2
        go_ret
        refine ⟨g, cp, tl, ?_, hcp, hS2, by omega, HBW.out.trans (hF2.below HBW.out.size (by intro k hk e; simp only [OneB] at e; omega))⟩
        rfl
    · have e1 : ((u : Int) != (s : Int)) = true := by rw [bne_iff_ne]; omega
      obtain ⟨r', rfl⟩ : ∃ r', r = r' + 1 := by
        cases r with
        | zero => exact absurd han (by show ¬ ((u : Int) = (s : Int)); omega)
        | succ r' => exact ⟨r', rfl⟩
      obtain ⟨p1, p2, p3, p4⟩ := HBF.out.par (u : Int) hiu (by omega)
      obtain ⟨q1, q2⟩ := HBF.out.nd _ p3
      have hst : (lS B (u : Int)).arc < L.length := p1.1
      have han' := han.2
      have hch' : (l ++ [lS B (u : Int)]) ++ bkw (frs L) (tos L) (lS B) r' (sfr (frs L) (tos L) (lS B (u : Int))) = bkw (frs L) (tos L) (lS B) n (t : Int) := by
        rw [← hch, List.append_assoc]; rfl
      rw [lS_nat] at hst q1 q2 p3 han' hch'
      obtain ⟨u', hu'⟩ := Int.eq_ofNat_of_zero_le q1
      rw [hu'] at q2 p3 han' hch'
      have hsz : l.length ≤ 60 := by omega
      have HOW := Lib.hid hI.own
      have HHI := Lib.hid hI
      have HCH := Lib.hid hch'
      have HAN2 := Lib.hid han'
      have HP3 := Lib.hid p3
      have HST := Lib.hid hst
      clear hI hch han hch' han' p1 p2 p3 p4 hst
      go_wp2_with (first | (at_builtin; refine wpList_append_own_at _ rfl (.tmp 24) (.tmp 30) 56 rfl (w.heap.size + 2) 102 i0 _ 2 16 Try.underlying56 HI0.out HZ0.out.1 HZ0.out.2.1 HZ0.out.2.2 rfl (by omega) u9 l.length _ rfl (HOW.out.alloc _) ⟨wr.heap.size, 0, none⟩ 1 1 [.int .i64 ((stp B u).arc : Int), .bool (stp B u).back] rfl rfl ?c1 ?c2 ?c3 ?c4 ?c5 ?_))
      case c1 => exact World.news_of_block (cs := #[.int .i64 ((stp B u).arc : Int), .bool (stp B u).back]) (t := 102) (fr := (0, 0)) (heap_alloc_new wr _)
      case c2 => simp [Value.oneCell']
      case c3 => unfold maxLen; omega
      case c4 => omega
      case c5 => simp; omega
      intro v1 w2 hown2 hgr _ hat
      have hlow : ∀ k, u9.ownBlock = some k → w.heap.size + 2 ≤ k := fun k hk => (HOW.out.lt k hk).1
      have hbw := HB.out.lt
      have hI2 : FsI w w2 B bB [.int .i64 (N : Int), .bool hd, .slice A L.length c, F, T] [.slice (some ⟨bD, 0, none⟩) N N, .slice (some ⟨bI, 0, none⟩) N N, .slice (some ⟨bB, 0, none⟩) N N] v1 (l ++ [stp B u]) := by
        refine ⟨?_, (HHI.out.x.alloc _).grown hgr (fun e => by have := hlow _ e.symm; omega), (HHI.out.r.alloc _).grown hgr (fun e => by have := hlow _ e.symm; omega), (HHI.out.b.alloc _).grown hgr (fun e => by have := hlow _ e.symm; omega), ?_⟩
        · have h := (Fr.of_below (S := NoB) (HHI.out.below)).alloc (.cells #[.int .i64 ((stp B u).arc : Int), .bool (stp B u).back] 102)
          exact (h.grown hgr (fun k hk => .inr (by have := hlow k hk; omega))).below (Nat.le_refl _) (fun _ _ h => h)
        · simpa [enc2] using hown2
      have hsl2 : slen v1 = l.length + 1 := by
        obtain ⟨A1, c1, e1, _, _⟩ := own_shape hown2
        rw [e1]; rfl
      have mk : ∀ w', Below w2.heap.size w2 w' → (w'.cell? ⟨w.heap.size, 0, none⟩ = some (.int .i64 (N : Int)) ∧ w'.cell? ⟨w.heap.size, 1, none⟩ = some (.bool hd) ∧ w'.cell? ⟨w.heap.size, 2, none⟩ = some (.slice A L.length c) ∧ w'.cell? ⟨w.heap.size, 3, none⟩ = some F ∧ w'.cell? ⟨w.heap.size + 1, 2, none⟩ = some (.slice (some ⟨bB, 0, none⟩) N N) ∧ w'.cell? ⟨bB, u * 2, none⟩ = some (.int .i64 ((stp B u).arc : Int)) ∧ w'.cell? ⟨bB, u * 2 + 1, none⟩ = some (.bool (stp B u).back)) := by
        intro w' hb
        have h := hI2.step hb
        exact ⟨h.x.cell 0 rfl, h.x.cell 1 rfl, h.x.cell 2 rfl, h.x.cell 3 rfl, h.r.cell 2 rfl, h.b.cell _ (encS_get B u (by rw [HLB.out]; exact hu)).1, h.b.cell _ (encS_get B u (by rw [HLB.out]; exact hu)).2⟩
      have hcall : ∀ w', Below w2.heap.size w2 w' → Calls Try.prog 129 #[.agg #[.int .i64 (N : Int), .bool hd, .slice A L.length c, F], .agg #[.int .i64 ((stp B u).arc : Int), .bool (stp B u).back]] w' fun e w'' => e = .returned (.int .i64 (u' : Int)) ∧ Below w'.heap.size w' w'' := by
        intro w' hb
        refine (from_calls _ hd F c (stp B u) (HA.out.fr (Fr.of_below (S := NoB) (hI2.step hb).below) (fun _ _ h => h)) hL HST.out).mono ?_
        rintro e w'' ⟨he, hb'⟩
        refine ⟨?_, hb'⟩
        rw [he]; exact ret_int (by rw [← lS_nat]; rw [← lS_nat] at hu'; exact hu')
      have MK := Lib.hid mk
      have HCALL := Lib.hid hcall
      have HI2 := Lib.hid hI2
      have y0 := hI2.x.lt
      have y1 := hI2.r.lt
      have y2 := hI2.b.lt
      clear mk hcall hI2 hgr hat hown2 hlow x0 x1 x2 x3 r2 b0 b1 xl rl bl
      go_wp2
      go_region_held3 (fun w' => w'.cell? ⟨w.heap.size, 0, none⟩ = some (.int .i64 (N : Int)) ∧ w'.cell? ⟨w.heap.size, 1, none⟩ = some (.bool hd) ∧ w'.cell? ⟨w.heap.size, 2, none⟩ = some (.slice A L.length c) ∧ w'.cell? ⟨w.heap.size, 3, none⟩ = some F ∧ w'.cell? ⟨w.heap.size + 1, 2, none⟩ = some (.slice (some ⟨bB, 0, none⟩) N N) ∧ w'.cell? ⟨bB, u * 2, none⟩ = some (.int .i64 ((stp B u).arc : Int)) ∧ w'.cell? ⟨bB, u * 2 + 1, none⟩ = some (.bool (stp B u).back))
        (first | exact MK.out _ ((Below.refl _ _).drew) | exact MK.out _ (((Below.refl _ _).drew).trans hb3))
        (first | (go_at_call 129; refine (HCALL.out _ ((Below.refl _ _).drew)).mono ?_; rintro e w3 ⟨rfl, hb3⟩))
      all_goals
        go_wp2
        go_roundw
        case rel => exact ⟨r', u', _, rfl, by omega, HP3.out, HAN2.out, by simp; omega, HCH.out, by rw [hsl2]; simp, FsI.step HI2.out (((Below.refl _ _).drew).trans hb3)⟩
        case measure => rw [hsl2]; omega
end Go.Proofs.Ythbffhlfdjpfaaa
