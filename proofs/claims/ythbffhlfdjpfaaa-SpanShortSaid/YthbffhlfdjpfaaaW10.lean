/- The rounds that make times less. -/
import Derived.Test.YthbffhlfdjpfaaaW9
import Derived.Deep.DeepCutAuto
namespace Go.Proofs.Ythbffhlfdjpfaaa
set_option linter.unusedVariables false
set_option linter.unusedSimpArgs false
open Go.RowKit

def xvOf (N : Nat) (hd : Bool) (A : Option Addr) (m c : Nat) (F : Option Addr) (n c' : Nat) (T : Option Addr) (cT : Nat) : List Value := [.int .i64 (N : Int), .bool hd, .slice A m c, .slice F n c', .slice T N cT]
def rvOf (N bD bI bB : Nat) : List Value := [.slice (some ⟨bD, 0, none⟩) N N, .slice (some ⟨bI, 0, none⟩) N N, .slice (some ⟨bB, 0, none⟩) N N]
def SettledPost (w : World) (L : List Arc) (N : Nat) (f : List Int) (s : Int) (bD bI bB : Nat) (e : Ending) (w' : World) : Prop :=
  e = .returned (.bool true) ∧ ∃ D I B, Blk w' bD 3 (encI D) ∧ Blk w' bI 4 (encB I) ∧ Blk w' bB 102 (encS B) ∧ D.length = N ∧ I.length = N ∧ B.length = N ∧ BFI L.length N (frs L) (tos L) (caps L) (fls f) (tms L) s (lI D) (lB I) (lS B) ∧
    (∀ st, Ok L.length (caps L) (fls f) st → Tt (frs L) (tos L) (tms L) (lI D) (lB I) st) ∧ Fr (Tri bD bI bB) w w'

set_option maxRecDepth 10000 in
set_option maxHeartbeats 4000000 in
theorem settled_calls {w : World} {okA okF okT : Nat → Prop} {A F T : Option Addr} {L : List Arc} {N : Nat} {f : List Int} {R : List (List Stp)} (hd : Bool) (c c' cT bD bI bB : Nat) (s : Int) (p : Int → Int) (D : List Int) (I : List Bool) (B : List Stp)
    (hN : Net L N f) (hA : RdA w okA A L) (hF : RdI w okF F f) (hT : RdAt w okT T L N R) (kA : ∀ k, okA k → ¬ Tri bD bI bB k) (kF : ∀ k, okF k → ¬ Tri bD bI bB k) (kT : ∀ k, okT k → ¬ Tri bD bI bB k)
    (hD : Blk w bD 3 (encI D)) (hI : Blk w bI 4 (encB I)) (hB : Blk w bB 102 (encS B)) (lD : D.length = N) (lI' : I.length = N) (lB' : B.length = N) (hne : bD ≠ bI ∧ bD ≠ bB ∧ bI ≠ bB)
    (hp : Feas L.length (frs L) (tos L) (caps L) (fls f) (tms L) p) (hb : BFI L.length N (frs L) (tos L) (caps L) (fls f) (tms L) s (lI D) (lB I) (lS B)) :
    Calls Try.prog 124 #[.agg #[.int .i64 (N : Int), .bool hd, .slice A L.length c, .slice F f.length c', .slice T N cT], .agg #[.slice (some ⟨bD, 0, none⟩) N N, .slice (some ⟨bI, 0, none⟩) N N, .slice (some ⟨bB, 0, none⟩) N N]] w (SettledPost w L N f s bD bI bB) := by
  have hN0 := hN.n0
  obtain ⟨bT, oT, _, _, rfl, _⟩ := hT.rd 0 (by rw [hT.len]; exact hN0)
  have hN1 := hN.n1
  have hlt : bD < w.heap.size ∧ bI < w.heap.size ∧ bB < w.heap.size := ⟨hD.lt, hI.lt, hB.lt⟩
  have hM : BfM w (((w.alloc (.cells #[.int .i64 (N : Int), .bool hd, .slice A L.length c, .slice F f.length c', .slice (some ⟨bT, oT, none⟩) N cT] 137))).alloc (.cells #[.slice (some ⟨bD, 0, none⟩) N N, .slice (some ⟨bI, 0, none⟩) N N, .slice (some ⟨bB, 0, none⟩) N N] 93)) N
      (xvOf N hd A L.length c F f.length c' (some ⟨bT, oT, none⟩) cT) (rvOf N bD bI bB) bD bI bB D I B :=
    ⟨((Fr.refl _ _).alloc _).alloc _, (Blk.new w [_, _, _, _, _] 137).alloc _, Blk.new' (by simp) [_, _, _] 93, (hD.alloc _).alloc _, (hI.alloc _).alloc _, (hB.alloc _).alloc _, lD, lI', lB', hlt, hne⟩
  have xc : ∀ (wr : World) (D : List Int) (I : List Bool) (B : List Stp), BfM w wr N (xvOf N hd A L.length c F f.length c' (some ⟨bT, oT, none⟩) cT) (rvOf N bD bI bB) bD bI bB D I B →
      (wr.cell? ⟨w.heap.size, 0, none⟩ = some (.int .i64 (N : Int)) ∧ wr.cell? ⟨w.heap.size, 1, none⟩ = some (.bool hd) ∧ wr.cell? ⟨w.heap.size, 2, none⟩ = some (.slice A L.length c) ∧ wr.cell? ⟨w.heap.size, 3, none⟩ = some (.slice F f.length c') ∧ wr.cell? ⟨w.heap.size, 4, none⟩ = some (.slice (some ⟨bT, oT, none⟩) N cT) ∧ w.heap.size < wr.heap.size) ∧
      (wr.cell? ⟨w.heap.size + 1, 0, none⟩ = some (.slice (some ⟨bD, 0, none⟩) N N) ∧ wr.cell? ⟨w.heap.size + 1, 1, none⟩ = some (.slice (some ⟨bI, 0, none⟩) N N) ∧ wr.cell? ⟨w.heap.size + 1, 2, none⟩ = some (.slice (some ⟨bB, 0, none⟩) N N) ∧ w.heap.size + 1 < wr.heap.size) ∧
      (bD < wr.heap.size ∧ bI < wr.heap.size ∧ bB < wr.heap.size) :=
    fun wr D I B h => ⟨⟨h.x.cell 0 rfl, h.x.cell 1 rfl, h.x.cell 2 rfl, h.x.cell 3 rfl, h.x.cell 4 rfl, h.x.lt⟩, ⟨h.r.cell 0 rfl, h.r.cell 1 rfl, h.r.cell 2 rfl, h.r.lt⟩, ⟨h.d.lt, h.i.lt, h.b.lt⟩⟩
  have hrows : RowsOk L N R := fun u hu st => row_iff hT hu
  have XC := Lib.hid xc
  have HRW := Lib.hid hrows
  clear xc hrows
  have HM := Lib.hid hM
  have HNet := Lib.hid hN
  have HP := Lib.hid hp
  have HB := Lib.hid hb
  have HA := Lib.hid hA
  have HF := Lib.hid hF
  have HT := Lib.hid hT
  have KA := Lib.hid kA
  have KF := Lib.hid kF
  have KT := Lib.hid kT
  clear hM hN hp hb hA hF hT kA kF kT hD hI hB lD lI' lB' hne hlt
  go_enter Try.func124, Try.ntmps124
  go_wp2
  go_step3
  go_wp2
  go_step3
  go_wp2
  go_loopw [16] (fun i wr => ∃ (k : Nat) (D : List Int) (I : List Bool) (B : List Stp), k + 1 ≤ N ∧ i = .int .i64 k ∧ Hid (BfM w wr N (xvOf N hd A L.length c F f.length c' (some ⟨bT, oT, none⟩) cT) (rvOf N bD bI bB) bD bI bB D I B) ∧
      Hid (BFI L.length N (frs L) (tos L) (caps L) (fls f) (tms L) s (lI D) (lB I) (lS B)) ∧ Hid (Rk L.length (frs L) (tos L) (caps L) (fls f) (tms L) s k (lI D) (lB I))) (fun i _ => N - (intOf i).toNat)
  case atStart => exact ⟨0, D, I, B, by omega, rfl, HM, HB, Rk.zero HB.out⟩
  case round =>
    clear HM HB
    obtain ⟨k, D, I, B, hk, rfl, hM, hB, hR⟩ := hrel
    obtain ⟨⟨x0, _, _, _, _, xl⟩, _, _⟩ := XC.out _ _ _ _ hM.out
    obtain ⟨wo, rfl⟩ : ∃ wo : World, wo = wr := ⟨_, rfl⟩
    have hk1 : decide ((k : Int) < (N : Int) + 1) = true := decide_eq_true (by omega)
    have hk2 : (k : Int) < (N : Int) + 1 := by omega
    go_wp2
    go_loopw [22, 5] (fun i bl wr => ∃ (v : Nat) (D : List Int) (I : List Bool) (B : List Stp) (b : Bool), v ≤ N ∧ i = .int .i64 v ∧ bl = .bool b ∧ Hid (BfM w wr N (xvOf N hd A L.length c F f.length c' (some ⟨bT, oT, none⟩) cT) (rvOf N bD bI bB) bD bI bB D I B) ∧ Hid (Rnd L N f s R k v D I B b)) (fun i _ _ => N - (intOf i).toNat)
    case atStart => exact ⟨0, D, I, B, true, by omega, rfl, rfl, hM, Rnd.first hB.out hR.out⟩
    case round =>
      clear hM hB hR x0 xl
      obtain ⟨v, D, I, B, b, hv, rfl, rfl, hM, hR⟩ := hrel
      obtain ⟨⟨x0, x1, x2, x3, x4, xl⟩, ⟨r0, r1, r2, rl⟩, ld, li, lb⟩ := XC.out _ _ _ _ hM.out
      by_cases hlt : v < N
      · have ci := hM.out.cellI hlt
        cases hi : lB I (v : Int)
        · rw [hi] at ci
          have HN := Lib.hid (hR.out.skip HRW.out hlt hi)
          clear hi
          go_wp2
          go_roundw
          case rel => exact ⟨v + 1, D, I, B, b, by omega, by go_num, rfl, hM, HN⟩
          case measure => simp [intOf]; omega
        · rw [hi] at ci
          have HE := Lib.hid (hR.out.enter hi)
          clear hi
          obtain ⟨_, _, A', cR, eT, hbT, hcT, hlen, hrow⟩ := HT.out.rd v (by rw [HT.out.len]; exact hlt)
          cases eT
          have hst := steps_at (N : Int) hd (.slice A L.length c) (.slice F f.length c') N cT v bT oT _ cR A' (hM.out.fr.at hcT (KT.out _ hbT)) hlt hN1
          have hr200 : (gr R v).length ≤ 400 := by
            rw [(HT.out.perm v hlt).length_eq]
            have h1 := endsTo_len (frs L) L.length v
            have h2 := endsTo_len (tos L) L.length v
            have h3 := HNet.out.len
            simp [stepsOf]
            omega
          have HST := Lib.hid hst
          have HROW := Lib.hid hrow
          clear hst hrow hcT
          go_wp2_with fail
          refine HST.out.mono ?_
          rintro e w1 ⟨rfl, hb1⟩
          have HM1 := Lib.hid (hM.out.step hb1)
          have HF1 := Lib.hid hb1
          clear hb1 hM x0 x1 x2 x3 x4 xl r0 r1 r2 rl ld li lb ci hR HST
          go_wp2_with fail
          go_loopw [35, 5] (fun i bl wr => ∃ (j : Nat) (D : List Int) (I : List Bool) (B : List Stp) (b : Bool), j ≤ (gr R v).length ∧ i = .int .i64 j ∧ bl = .bool b ∧ Hid (BfM w wr N (xvOf N hd A L.length c F f.length c' (some ⟨bT, oT, none⟩) cT) (rvOf N bD bI bB) bD bI bB D I B) ∧ Hid (RndI L N f s R k v j D I B b)) (fun i _ _ => (gr R v).length - (intOf i).toNat)
          case atStart => exact ⟨0, D, I, B, b, Nat.zero_le _, rfl, rfl, HM1, HE⟩
          case round =>
            clear HM1 HE HF1
            obtain ⟨j, D, I, B, b, hj, rfl, rfl, hM, hR⟩ := hrel
            obtain ⟨⟨x0, x1, x2, x3, x4, xl⟩, ⟨r0, r1, r2, rl⟩, ld, li, lb⟩ := XC.out _ _ _ _ hM.out
            by_cases hjl : j < (gr R v).length
            · obtain ⟨bq, oq, eq', hq1, q0, q1⟩ := (HROW.out.fr hM.out.fr KT.out) j hjl
              subst eq'
              have ql := World.block_lt_of_cell? _ _ q0
              obtain ⟨⟨sa, sb⟩, hst⟩ : ∃ st, stp (gr R v) j = st := ⟨_, rfl⟩
              rw [hst] at q0 q1
              have hmem : stp (gr R v) j ∈ gr R v := stp_mem hjl
              have hsv := (HRW.out v hlt _).1 hmem
              rw [hst] at hsv
              obtain ⟨hsa, hsf⟩ := hsv
              simp only at hsa
              have htoN : Nd N (sto (frs L) (tos L) ⟨sa, sb⟩) := by
                have h1 := HNet.out.ends sa hsa
                unfold sto
                split
                · exact h1.1
                · exact h1.2
              obtain ⟨x, hx⟩ := Int.eq_ofNat_of_zero_le htoN.1
              have hxN : x < N := by have := htoN.2; omega
              have htmb := HNet.out.tm sa hsa
              have hcab := HNet.out.cap sa hsa
              have hflb := HNet.out.flow sa hsa
              obtain ⟨tau, htau⟩ : ∃ t, stm (tms L) ⟨sa, sb⟩ = t := ⟨_, rfl⟩
              have htb : -1048576 ≤ tau ∧ tau ≤ 1048576 := by
                rw [← htau]
                unfold stm
                split <;> simp only <;> omega
              obtain ⟨htb0, htb1⟩ := htb
              obtain ⟨dv, hdv⟩ : ∃ d, lI D (v : Int) = d := ⟨_, rfl⟩
              have cd := hM.out.cellD hlt
              rw [hdv] at cd
              have hlow := hR.out.bf.low HP.out HNet.out.tm hR.out.is
              have hhig := hR.out.bf.high hR.out.is
              rw [hdv] at hlow hhig
              have hd0 : -52428800 ≤ dv := by omega
              have hd1 : dv ≤ 52428800 := by omega
              have hwrap : IntKind.i64.wrap (dv + tau) = dv + tau := IntWalk.i64_in _ (by omega)
              have hto : ∀ w1 : World, Below (wr.alloc (.cells #[.int .i64 (sa : Int), .bool sb] 102)).heap.size (wr.alloc (.cells #[.int .i64 (sa : Int), .bool sb] 102)) w1 → Calls Try.prog 135 #[.agg #[.int .i64 (N : Int), .bool hd, .slice A L.length c, .slice F f.length c'], .agg #[.int .i64 (sa : Int), .bool sb]] w1 fun e w' => e = .returned (.int .i64 (x : Int)) ∧ Below w1.heap.size w1 w' := by
                intro w1 hb
                rw [← hx]
                exact to_calls (N : Int) hd (.slice F f.length c') c ⟨sa, sb⟩ ((HA.out.fr hM.out.fr KA.out).fr (Fr.of_below (S := NoB) (below_then' one_new hb)) (fun _ _ h => h)) HNet.out.len hsa
              have hti : ∀ w1 : World, Below (wr.alloc (.cells #[.int .i64 (sa : Int), .bool sb] 102)).heap.size (wr.alloc (.cells #[.int .i64 (sa : Int), .bool sb] 102)) w1 → Calls Try.prog 136 #[.agg #[.int .i64 (N : Int), .bool hd, .slice A L.length c, .slice F f.length c'], .agg #[.int .i64 (sa : Int), .bool sb]] w1 fun e w' => e = .returned (.int .i64 tau) ∧ Below w1.heap.size w1 w' := by
                intro w1 hb
                rw [← htau]
                exact time_calls (N : Int) hd (.slice F f.length c') c ⟨sa, sb⟩ ((HA.out.fr hM.out.fr KA.out).fr (Fr.of_below (S := NoB) (below_then' one_new hb)) (fun _ _ h => h)) HNet.out.len hsa htmb
              have hro : ∀ w1 : World, Below (wr.alloc (.cells #[.int .i64 (sa : Int), .bool sb] 102)).heap.size (wr.alloc (.cells #[.int .i64 (sa : Int), .bool sb] 102)) w1 → Calls Try.prog 131 #[.agg #[.int .i64 (N : Int), .bool hd, .slice A L.length c, .slice F f.length c'], .agg #[.int .i64 (sa : Int), .bool sb]] w1 fun e w' => e = .returned (.int .i64 (room (caps L) (fls f) ⟨sa, sb⟩)) ∧ Below w1.heap.size w1 w' := by
                intro w1 hb
                have hfr := Fr.of_below (S := NoB) (below_then' one_new hb)
                exact room_calls (N : Int) hd c c' ⟨sa, sb⟩ ((HA.out.fr hM.out.fr KA.out).fr hfr (fun _ _ h => h)) HNet.out.len hsa ((HF.out.fr hM.out.fr KF.out).fr hfr (fun _ _ h => h)) HNet.out.flen hcab (by show 0 ≤ fls f sa ∧ fls f sa ≤ 1048576; omega)
              have mk : ∀ w', Below (wr.alloc (.cells #[.int .i64 (sa : Int), .bool sb] 102)).heap.size (wr.alloc (.cells #[.int .i64 (sa : Int), .bool sb] 102)) w' → (w'.cell? ⟨w.heap.size, 0, none⟩ = some (.int .i64 (N : Int)) ∧ w'.cell? ⟨w.heap.size, 1, none⟩ = some (.bool hd) ∧ w'.cell? ⟨w.heap.size, 2, none⟩ = some (.slice A L.length c) ∧ w'.cell? ⟨w.heap.size, 3, none⟩ = some (.slice F f.length c') ∧ w'.cell? ⟨wr.heap.size, 0, none⟩ = some (.int .i64 (sa : Int)) ∧ w'.cell? ⟨wr.heap.size, 1, none⟩ = some (.bool sb) ∧ w'.cell? ⟨w.heap.size + 1, 0, none⟩ = some (.slice (some ⟨bD, 0, none⟩) N N) ∧ w'.cell? ⟨bD, v, none⟩ = some (.int .i64 dv)) := by
                intro w' hb
                have hb' := below_then' (one_new (w := wr) (o1 := .cells #[.int .i64 (sa : Int), .bool sb] 102)) hb
                have hq := (Blk.new wr [.int .i64 (sa : Int), .bool sb] 102).below hb
                exact ⟨cell_kept hb' x0, cell_kept hb' x1, cell_kept hb' x2, cell_kept hb' x3, hq.cell 0 rfl, hq.cell 1 rfl, cell_kept hb' r0, cell_kept hb' cd⟩
              have i1 : (0 : Int) ≤ (v : Int) := by omega
              have i2 : (v : Int) < (N : Int) := by omega
              have HSS := Lib.hid hst
              have HTO := Lib.hid hto
              have HTI := Lib.hid hti
              have HRO := Lib.hid hro
              have MK := Lib.hid mk
              have HX := Lib.hid hx
              have HTAU := Lib.hid htau
              have HDV := Lib.hid hdv
              have HSF := Lib.hid hsf
              clear hst hto hti hro mk hx htau hdv hsf hmem htoN cd hlow hhig
              go_wp2
              go_region_held3 (fun w' => w'.cell? ⟨w.heap.size, 0, none⟩ = some (.int .i64 (N : Int)) ∧ w'.cell? ⟨w.heap.size, 1, none⟩ = some (.bool hd) ∧ w'.cell? ⟨w.heap.size, 2, none⟩ = some (.slice A L.length c) ∧ w'.cell? ⟨w.heap.size, 3, none⟩ = some (.slice F f.length c') ∧ w'.cell? ⟨wr.heap.size, 0, none⟩ = some (.int .i64 (sa : Int)) ∧ w'.cell? ⟨wr.heap.size, 1, none⟩ = some (.bool sb) ∧ w'.cell? ⟨w.heap.size + 1, 0, none⟩ = some (.slice (some ⟨bD, 0, none⟩) N N) ∧ w'.cell? ⟨bD, v, none⟩ = some (.int .i64 dv)) (first | exact MK.out _ (Below.refl _ _).drew | exact MK.out _ (kb1 hbt) | exact MK.out _ (kb1 hbm) | exact MK.out _ (below_then' (kb1 hbt) hbm) | exact MK.out _ (below_then' (kb1 hbm) hbt))
                (first | (go_at_call 135; refine (HTO.out _ (by first | exact (Below.refl _ _).drew | exact kb1 hbm)).mono ?_; rintro e w1 ⟨rfl, hbt⟩) | (go_at_call 136; refine (HTI.out _ (by first | exact (Below.refl _ _).drew | exact kb1 hbt)).mono ?_; rintro e w1 ⟨rfl, hbm⟩))
              have hW1 := below_then' (kb1 hbt) hbm
              have hW2 := below_then' (one_new (w := wr) (o1 := .cells #[.int .i64 (sa : Int), .bool sb] 102)) hW1
              have HW1 := Lib.hid hW1
              have HW2 := Lib.hid hW2
              clear hbt hbm x0 x1 x2 x3 x4 xl r0 r1 r2 rl ld li lb q0 q1 ql hW1 hW2
              go_wp2_with fail
              refine (HRO.out _ HW1.out).mono ?_
              rintro e w2 ⟨rfl, hb2⟩
              have hM2 := hM.out.step (below_then' HW2.out hb2)
              have hq := (Blk.new wr [.int .i64 (sa : Int), .bool sb] 102).below (below_then' HW1.out hb2)
              have s0 := hq.cell 0 rfl
              have s1 := hq.cell 1 rfl
              have sl := hq.lt
              obtain ⟨_, ⟨r0, r1, r2, rl⟩, ld, li, lb⟩ := XC.out _ _ _ _ hM2
              have ci := hM2.cellI hxN
              have cd := hM2.cellD hxN
              have cf := hM2.d.free x
              have cif := hM2.i.free x
              have cb0 := (hM2.cellB hxN).1
              have cb1 := (hM2.cellB hxN).2
              have cbf0 := hM2.b.free (x * 2)
              have cbf1 := hM2.b.free (x * 2 + 1)
              have j1 : (0 : Int) ≤ (x : Int) := by omega
              have j2 : (x : Int) < (N : Int) := by omega
              obtain ⟨n1, n2, n3⟩ := hM2.ne
              have n1' := Ne.symm n1
              have n2' := Ne.symm n2
              have n3' := Ne.symm n3
              obtain ⟨l1, l2, l3⟩ := hM2.lt
              have l4 := hM2.fr.size
              have m1 : w.heap.size + 1 ≠ bD := by omega
              have m2 : w.heap.size + 1 ≠ bI := by omega
              have m3 : w.heap.size + 1 ≠ bB := by omega
              have m4 : wr.heap.size ≠ bD := by have := hM.out.fr.size; omega
              have m5 : wr.heap.size ≠ bI := by have := hM.out.fr.size; omega
              have m6 : wr.heap.size ≠ bB := by have := hM.out.fr.size; omega
              have m1' := Ne.symm m1
              have m2' := Ne.symm m2
              have m3' := Ne.symm m3
              have m4' := Ne.symm m4
              have m5' := Ne.symm m5
              have m6' := Ne.symm m6
              have HM2 := Lib.hid hM2
              obtain ⟨rm, hrm⟩ : ∃ r, room (caps L) (fls f) ⟨sa, sb⟩ = r := ⟨_, rfl⟩
              have HRM := Lib.hid hrm
              have htight : (¬ 0 < rm ∨ lB I (x : Int) = true ∧ ¬ dv + tau < lI D (x : Int)) → RndI L N f s R k v (j + 1) D I B b := by
                intro hc
                refine hR.out.tight hjl ?_
                rw [HSS.out]
                intro ho hs
                have ho2 := ho.2
                rw [HRM.out] at ho2
                rcases hc with hc | ⟨h1, h2⟩
                · exact absurd ho2 hc
                · rw [HX.out, HSF.out, HDV.out, HTAU.out]
                  exact ⟨h1, by omega⟩
              have hrelax : 0 < rm → (lB I (x : Int) = false ∨ dv + tau < lI D (x : Int)) → RndI L N f s R k v (j + 1) (D.set x (dv + tau)) (I.set x true) (B.set x ⟨sa, sb⟩) false := by
                intro h0 hc
                have h := hR.out.relax HNet.out HP.out HRW.out hlt hjl HM2.out.lD HM2.out.lI HM2.out.lB hk (by rw [HSS.out]; exact ⟨hsa, by rw [HRM.out]; exact h0⟩) (x := x) (by rw [HSS.out]; exact HX.out) (d := dv + tau) (by rw [HSS.out, HDV.out, HTAU.out]) hc
                rwa [HSS.out] at h
              rw [hrm]
              clear hb2 hM2 hq hrm hM hR
              have HTT := Lib.hid htight
              clear htight
              by_cases hroom : 0 < rm
              · have HRX := Lib.hid (hrelax hroom)
                clear hrelax
                cases hIx : lB I (x : Int)
                · rw [hIx] at ci HRX
                  clear hIx
                  go_wp2
                  go_region_held3 (fun w' => w'.cell? ⟨w.heap.size + 1, 0, none⟩ = some (.slice (some ⟨bD, 0, none⟩) N N) ∧ w'.cell? ⟨w.heap.size + 1, 1, none⟩ = some (.slice (some ⟨bI, 0, none⟩) N N) ∧ w'.cell? ⟨w.heap.size + 1, 2, none⟩ = some (.slice (some ⟨bB, 0, none⟩) N N) ∧ w'.cell? ⟨wr.heap.size, 0, none⟩ = some (.int .i64 (sa : Int)) ∧ w'.cell? ⟨wr.heap.size, 1, none⟩ = some (.bool sb)) (go_keep) (fail)
                  go_wp2
                  go_roundw
                  case rel => exact ⟨j + 1, _, _, _, false, by omega, by go_num, rfl, HM2.out.put hxN (dv + tau) ⟨sa, sb⟩, HRX.out (.inl (by simp))⟩
                  case measure => simp [intOf]; omega
                · rw [hIx] at ci
                  by_cases hdx : dv + tau < lI D (x : Int)
                  · have HDX := Lib.hid hdx
                    go_wp2
                    go_region_held3 (fun w' => w'.cell? ⟨w.heap.size + 1, 0, none⟩ = some (.slice (some ⟨bD, 0, none⟩) N N) ∧ w'.cell? ⟨w.heap.size + 1, 1, none⟩ = some (.slice (some ⟨bI, 0, none⟩) N N) ∧ w'.cell? ⟨w.heap.size + 1, 2, none⟩ = some (.slice (some ⟨bB, 0, none⟩) N N) ∧ w'.cell? ⟨wr.heap.size, 0, none⟩ = some (.int .i64 (sa : Int)) ∧ w'.cell? ⟨wr.heap.size, 1, none⟩ = some (.bool sb)) (go_keep) (fail)
                    go_wp2
                    go_roundw
                    case rel => exact ⟨j + 1, _, _, _, false, by omega, by go_num, rfl, HM2.out.put hxN (dv + tau) ⟨sa, sb⟩, HRX.out (.inr HDX.out)⟩
                    case measure => simp [intOf]; omega
                  · have HT2 := Lib.hid (HTT.out (.inr ⟨hIx, hdx⟩))
                    clear hIx HRX
                    go_wp2
                    go_roundw
                    case rel => first | exact ⟨j + 1, D, I, B, b, by omega, by go_num, rfl, HM2, HT2⟩ | ((repeat apply Exists.intro); exact ⟨⟨j + 1, D, I, B, b, by omega, by go_num, rfl, HM2, HT2⟩, rfl⟩)
                    case measure => simp [intOf]; omega
              · have HT2 := Lib.hid (HTT.out (.inl hroom))
                clear hrelax
                go_wp2
                go_roundw
                case rel => exact ⟨j + 1, D, I, B, b, by omega, by go_num, rfl, HM2, HT2⟩
                case measure => simp [intOf]; omega
            · have HL := Lib.hid (hR.out.leave (by omega))
              clear x0 x1 x2 x3 x4 xl r0 r1 r2 rl ld li lb
              go_wp2
              go_roundw
              case rel => first | exact ⟨v + 1, D, I, B, b, by omega, by go_num, rfl, hM, HL⟩ | ((repeat apply Exists.intro); exact ⟨⟨v + 1, D, I, B, b, by omega, by go_num, rfl, hM, HL⟩, rfl⟩)
              case measure => simp [intOf]; omega
      · have e : v = N := by omega
        subst e
        clear x0 x1 x2 x3 x4 xl r0 r1 r2 rl ld li lb
        cases b
        · have hmore := hR.out.more rfl
          go_wp2
          go_roundw
          case rel => exact ⟨k + 1, D, I, B, by omega, by go_num, hM, hR.out.bf, hR.out.next HNet.out HRW.out⟩
          case measure => simp [intOf]; omega
        · go_wp2
          rw [Exit.noGoto_ret]
          go_ret
          exact ⟨rfl, D, I, B, hM.out.d, hM.out.i, hM.out.b, hM.out.lD, hM.out.lI, hM.out.lB, hR.out.bf, hR.out.final HNet.out HRW.out, hM.out.fr⟩

end Go.Proofs.Ythbffhlfdjpfaaa
