/- The library's stable sort of steps only changes their order. -/
import Derived.Test.YthbffhlfdjpfaaaW6
namespace Go.Proofs.Ythbffhlfdjpfaaa
set_option linter.unusedVariables false
set_option linter.unusedSimpArgs false
open Go.RowKit

theorem sym_all (d : Nat) : SymSaid d := by
  induction d with
  | zero => intro w bk l tl n0 c a m b _ _ _ h1 h2 _ _ h3; omega
  | succ d IH =>
    intro w bk l tl n0 c a m b hB hn hl h1 h2 h3 hbd hd
    by_cases e1 : m = a + 1
    · subst e1
      exact symMerge_one n0 c a b hB hn hl h2 h3 hbd
    · by_cases e2 : b = m + 1
      · subst e2
        exact symMerge_last n0 c a m hB hn hl (by omega) h3 hbd
      · exact symMerge_gen d n0 c a m b IH hB hn hl (by omega) (by omega) h3 hbd hd

theorem PmI.drewN {w w1 : World} {bk : Nat} {l0 l' : List Stp} {tl : List Value} (h : PmI w w1 bk l0 tl l') (n : Nat) : PmI w (w1.drewN n) bk l0 tl l' := ⟨h.perm, h.st, h.fr.drewN n⟩

set_option maxRecDepth 10000 in
set_option maxHeartbeats 2000000 in
theorem insert_calls {w : World} {bk : Nat} {l : List Stp} {tl : List Value} (n0 c a b : Nat) (hB : StB w bk l tl) (hn0 : l.length = n0) (hl : n0 ≤ 1000) (hab : a ≤ b) (hbn : b ≤ n0) (hbd : ∀ s, s ∈ l → s.arc < 1000) :
    Calls Try.prog 147 #[.slice (some ⟨bk, 0, none⟩) n0 c, .int .i64 (a : Int), .int .i64 (b : Int), .func (.func 128) #[] #[]] w fun e w' => e = .returned (.tuple #[]) ∧ Pm w w' bk l tl := by
  have HB := Lib.hid (show PmE w w bk l tl from ⟨l, PmI.refl hB⟩)
  have HN := Lib.hid hn0
  have HD := Lib.hid hbd
  clear hB hn0 hbd
  go_enter Try.func147, Try.ntmps147
  go_wp2
  go_loopw [8] (fun i wr => ∃ x : Nat, a + 1 ≤ x ∧ x ≤ b + 1 ∧ i = .int .i64 x ∧ Hid (PmE w wr bk l tl)) (fun i _ => b + 1 - (intOf i).toNat)
  case atStart => exact ⟨a + 1, by omega, by omega, by go_num, HB⟩
  case round =>
    obtain ⟨x, hx, hxb, rfl, hE⟩ := hrel
    by_cases hlt : x < b
    · obtain ⟨wo, rfl⟩ : ∃ wo : World, wo = wr := ⟨_, rfl⟩
      go_wp2
      go_loopw [9] (fun j wi => ∃ (y : Nat) (l' : List Stp), a ≤ y ∧ y ≤ x ∧ j = .int .i64 y ∧ Hid (PmI w wi bk l tl l')) (fun j _ => (intOf j).toNat)
      case atStart =>
        obtain ⟨l', hI⟩ := (show PmE w wo bk l tl from hE)
        exact ⟨x, l', by omega, Nat.le_refl _, rfl, hI⟩
      case round =>
        obtain ⟨y, l', hy1, hy2, rfl, hI⟩ := hrel
        clear hE
        by_cases hay : a < y
        · obtain ⟨z, rfl⟩ : ∃ z, y = z + 1 := ⟨y - 1, by omega⟩
          have hlen := hI.out.len.trans HN.out
          have hbk := hI.out.lt
          have i0 : (0 : Int) ≤ (z : Int) := by omega
          have i1 : (z : Int) + 1 < (n0 : Int) := by omega
          have i2 : (z : Int) < (n0 : Int) := by omega
          have i3 : (0 : Int) ≤ (z : Int) + 1 := by omega
          have hg : decide ((a : Int) < (z : Int) + 1) = true := decide_eq_true (by omega)
          have hqw : IntKind.i64.wrap (z : Int) = (z : Int) := IntWalk.i64_in _ (by omega)
          have mk : ∀ w', PmI w w' bk l tl l' → (w'.cell? ⟨bk, (z + 1) * 2, none⟩ = some (.int .i64 ((stp l' (z + 1)).arc : Int)) ∧ w'.cell? ⟨bk, (z + 1) * 2 + 1, none⟩ = some (.bool (stp l' (z + 1)).back) ∧ w'.cell? ⟨bk, z * 2, none⟩ = some (.int .i64 ((stp l' z).arc : Int)) ∧ w'.cell? ⟨bk, z * 2 + 1, none⟩ = some (.bool (stp l' z).back)) :=
            fun w' h => h.cells (by omega) (by omega)
          have MK := Lib.hid mk
          have HL := Lib.hid hlen
          clear mk hlen
          go_wp2
          go_region_held3 (fun w' => w'.cell? ⟨bk, (z + 1) * 2, none⟩ = some (.int .i64 ((stp l' (z + 1)).arc : Int)) ∧ w'.cell? ⟨bk, (z + 1) * 2 + 1, none⟩ = some (.bool (stp l' (z + 1)).back) ∧ w'.cell? ⟨bk, z * 2, none⟩ = some (.int .i64 ((stp l' z).arc : Int)) ∧ w'.cell? ⟨bk, z * 2 + 1, none⟩ = some (.bool (stp l' z).back)) (first | exact MK.out _ hI.out.drew | exact MK.out _ (hI.out.drew.below hb1))
            (first | (go_at_call 128; refine (cmp_calls (stp l' (z + 1)) (stp l' z) _ ?c1 ?c2).mono ?_; (case c1 => exact hI.out.arc HD.out (by rw [HL.out]; omega)); (case c2 => exact hI.out.arc HD.out (by rw [HL.out]; omega)); rintro e w1 ⟨rfl, hb1⟩))
          have hJ := hI.out.drew.below hb1
          have hbk1 := hJ.lt
          obtain ⟨a0, a1, a2, a3⟩ := hJ.cells (i := z + 1) (j := z) (by rw [HL.out]; omega) (by rw [HL.out]; omega)
          obtain ⟨f0, f1, f2, f3⟩ := hJ.frees (z + 1) z
          have HJ := Lib.hid hJ
          clear hb1 hI hJ hqw hbk
          go_wp2
          · go_region
            go_wp2
            go_roundw
            case rel => exact ⟨z, _, by omega, by omega, by go_num, HJ.out.swap (i := z + 1) (j := z) (by rw [HL.out]; omega) (by rw [HL.out]; omega)⟩
            case measure => simp [intOf]
          · go_roundw
            case rel => exact ⟨x + 1, by omega, by omega, by go_num, ⟨l', HJ.out⟩⟩
            case measure => simp [intOf]; omega
        · have hg : decide ((a : Int) < (y : Int)) = false := decide_eq_false (by omega)
          go_wp2
          go_quiet (fail)
          go_wp2
          go_roundw
          case rel => exact ⟨x + 1, by omega, by omega, by go_num, ⟨l', hI.out.drewN _⟩⟩
          case measure => simp [intOf]; omega
    · go_wp2
      go_end0
      exact ⟨rfl, PmE.pm hE⟩

theorem insert_on {w w1 : World} {bk : Nat} {l : List Stp} {tl : List Value} (n0 c : Nat) (a b : Int) (h : PmE w w1 bk l tl) (hn0 : l.length = n0) (hl : n0 ≤ 1000) (hbd : ∀ s, s ∈ l → s.arc < 1000) (h0 : 0 ≤ a) (hab : a ≤ b) (hb : b ≤ n0) :
    Calls Try.prog 147 #[.slice (some ⟨bk, 0, none⟩) n0 c, .int .i64 a, .int .i64 b, .func (.func 128) #[] #[]] w1 fun e w' => e = .returned (.tuple #[]) ∧ PmE w w' bk l tl := by
  obtain ⟨l', h⟩ := h
  obtain ⟨a', rfl⟩ := Int.eq_ofNat_of_zero_le h0
  obtain ⟨b', rfl⟩ := Int.eq_ofNat_of_zero_le (show 0 ≤ b by omega)
  refine (insert_calls n0 c a' b' h.st (h.len.trans hn0) hl (by omega) (by omega) (h.arcs hbd)).mono ?_
  rintro e w' ⟨he, hq⟩
  exact ⟨he, h.then hq⟩

set_option maxRecDepth 10000 in
set_option maxHeartbeats 2000000 in
theorem stable_calls {w : World} {bk : Nat} {l : List Stp} {tl : List Value} (n0 c : Nat) (hB : StB w bk l tl) (hn0 : l.length = n0) (hl : n0 ≤ 1000) (hbd : ∀ s, s ∈ l → s.arc < 1000) :
    Calls Try.prog 140 #[.slice (some ⟨bk, 0, none⟩) n0 c, .int .i64 (n0 : Int), .func (.func 128) #[] #[]] w fun e w' => e = .returned (.tuple #[]) ∧ Pm w w' bk l tl := by
  have HB := Lib.hid (show PmE w w bk l tl from ⟨l, PmI.refl hB⟩)
  have HN := Lib.hid hn0
  have HD := Lib.hid hbd
  have HS := Lib.hid (sym_all n0)
  clear hB hn0 hbd
  go_enter Try.func140, Try.ntmps140
  go_wp2
  go_loopw [7, 8] (fun a b wr => ∃ x : Nat, x ≤ n0 ∧ a = .int .i64 x ∧ b = .int .i64 ((x : Int) + 20) ∧ Hid (PmE w wr bk l tl)) (fun a _ _ => n0 - (intOf a).toNat)
  case atStart => exact ⟨0, by omega, rfl, rfl, HB⟩
  case round =>
    obtain ⟨x, hx, rfl, rfl, hE⟩ := hrel
    by_cases hlt : (x : Int) + 20 ≤ n0
    · go_wp2_with (first | (go_at_call 147; refine (insert_on n0 c _ _ (by assumption) HN.out hl HD.out (by omega) (by omega) (by omega)).mono ?_; rintro e w2 ⟨rfl, hE2⟩; have HE2 := Lib.hid hE2; clear hE2))
      go_roundw
      case rel => exact ⟨x + 20, by omega, by go_num, by go_num, by assumption⟩
      case measure => simp [intOf]; omega
    · go_wp2_with (first | (go_at_call 147; refine (insert_on n0 c _ _ (by assumption) HN.out hl HD.out (by omega) (by omega) (by omega)).mono ?_; rintro e w2 ⟨rfl, hE2⟩; have HE2 := Lib.hid hE2; clear hE2))
      go_loopw [6] (fun sz wr => ∃ z : Nat, 20 ≤ z ∧ z ≤ 2000 ∧ sz = .int .i64 z ∧ Hid (PmE w wr bk l tl)) (fun sz _ => 2000 - (intOf sz).toNat)
      case atStart => exact ⟨20, by omega, by omega, rfl, by assumption⟩
      case round =>
        obtain ⟨z, hz1, hz2, rfl, hE'⟩ := hrel
        by_cases hzn : z < n0
        · obtain ⟨wo, rfl⟩ : ∃ wo : World, wo = wr := ⟨_, rfl⟩
          go_wp2
          go_loopw [7, 8] (fun a b wi => ∃ y : Nat, y ≤ n0 ∧ a = .int .i64 y ∧ b = .int .i64 ((y : Int) + 2 * z) ∧ Hid (PmE w wi bk l tl)) (fun a _ _ => n0 - (intOf a).toNat)
          case atStart => exact ⟨0, by omega, rfl, by (congr 1 <;> omega), hE'⟩
          case round =>
            obtain ⟨y, hy, rfl, rfl, hF⟩ := hrel
            clear hE'
            by_cases hyn : (y : Int) + 2 * z ≤ n0
            · go_wp2_with (first | (go_at_call 148; refine (sym_on HS.out n0 c _ _ _ (by assumption) HN.out hl HD.out (by omega) (by omega) (by omega) (by omega) (by omega)).mono ?_; rintro e w2 ⟨rfl, hE2⟩; have HE2 := Lib.hid hE2; clear hE2))
              go_roundw
              case rel => exact ⟨y + 2 * z, by omega, by congr 1, by (congr 1 <;> omega), by assumption⟩
              case measure => simp [intOf]; omega
            · by_cases hym : (y : Int) + z < n0
              · go_wp2_with (first | (go_at_call 148; refine (sym_on HS.out n0 c _ _ _ (by assumption) HN.out hl HD.out (by omega) (by omega) (by omega) (by omega) (by omega)).mono ?_; rintro e w2 ⟨rfl, hE2⟩; have HE2 := Lib.hid hE2; clear hE2))
                go_roundw
                case rel => exact ⟨z * 2, by omega, by omega, by congr 1, by assumption⟩
                case measure => simp [intOf]; omega
              · go_wp2
                go_roundw
                case rel => exact ⟨z * 2, by omega, by omega, by congr 1, hF⟩
                case measure => simp [intOf]; omega
        · go_wp2
          go_end0
          exact ⟨rfl, PmE.pm hE'⟩

set_option maxHeartbeats 400000 in
/-- the sort: the steps stand in some order -/
theorem sort_calls {w : World} {bk : Nat} {l : List Stp} {tl : List Value} (c : Nat) (hB : StB w bk l tl) (hl : l.length ≤ 1000) (hbd : ∀ s, s ∈ l → s.arc < 1000) :
    Calls Try.prog 127 #[.slice (some ⟨bk, 0, none⟩) l.length c, .func (.func 128) #[] #[]] w fun e w' => e = .returned (.tuple #[]) ∧ Pm w w' bk l tl := by
  have HC := Lib.hid (stable_calls l.length c hB rfl hl hbd)
  clear hB hbd
  go_enter Try.func127, Try.ntmps127
  go_wp2_with fail
  refine HC.out.mono ?_
  rintro e w1 ⟨rfl, hq⟩
  have HQ := Lib.hid hq
  clear hq
  go_wp2
  go_end0
  exact ⟨rfl, HQ.out⟩

end Go.Proofs.Ythbffhlfdjpfaaa
