/- The merge of the library's stable sort, whole; insertion; the sort: they only change the order of steps. -/
import Derived.Test.YthbffhlfdjpfaaaW5
namespace Go.Proofs.Ythbffhlfdjpfaaa
set_option linter.unusedVariables false
set_option linter.unusedSimpArgs false
open Go.RowKit

def SymSaid (d : Nat) : Prop := ∀ (w : World) (bk : Nat) (l : List Stp) (tl : List Value) (n0 c a m b : Nat), StB w bk l tl → l.length = n0 → n0 ≤ 1000 → a < m → m < b → b ≤ n0 → (∀ s, s ∈ l → s.arc < 1000) → b - a ≤ d →
    Calls Try.prog 148 #[.slice (some ⟨bk, 0, none⟩) n0 c, .int .i64 (a : Int), .int .i64 (m : Int), .int .i64 (b : Int), .func (.func 128) #[] #[]] w fun e w' => e = .returned (.tuple #[]) ∧ Pm w w' bk l tl

theorem PmI.arcs {w w1 : World} {bk : Nat} {l0 l' : List Stp} {tl : List Value} (h : PmI w w1 bk l0 tl l') (hbd : ∀ s, s ∈ l0 → s.arc < 1000) : ∀ s, s ∈ l' → s.arc < 1000 := fun s hs => hbd s (h.perm.mem_iff.1 hs)
/-- 'on the way', the order left open -/
def PmE (w w1 : World) (bk : Nat) (l0 : List Stp) (tl : List Value) : Prop := ∃ l', PmI w w1 bk l0 tl l'
theorem PmE.pm {w w1 : World} {bk : Nat} {l0 : List Stp} {tl : List Value} (h : PmE w w1 bk l0 tl) : Pm w w1 bk l0 tl := h.elim fun _ h => h.pm

theorem rotate_on {w w1 : World} {bk : Nat} {l : List Stp} {tl : List Value} (n0 c : Nat) (a m b : Int) (F : Value) (h : PmE w w1 bk l tl) (hn0 : l.length = n0) (hl : n0 ≤ 1000) (h0 : 0 ≤ a) (ham : a < m) (hmb : m < b) (hb : b ≤ n0) :
    Calls Try.prog 152 #[.slice (some ⟨bk, 0, none⟩) n0 c, .int .i64 a, .int .i64 m, .int .i64 b, F] w1 fun e w' => e = .returned (.tuple #[]) ∧ PmE w w' bk l tl := by
  obtain ⟨l', h⟩ := h
  obtain ⟨a', rfl⟩ := Int.eq_ofNat_of_zero_le h0
  obtain ⟨m', rfl⟩ := Int.eq_ofNat_of_zero_le (show 0 ≤ m by omega)
  obtain ⟨b', rfl⟩ := Int.eq_ofNat_of_zero_le (show 0 ≤ b by omega)
  refine (rotate_calls n0 c a' m' b' F h.st (h.len.trans hn0) hl (by omega) (by omega) (by omega)).mono ?_
  rintro e w' ⟨he, hq⟩
  exact ⟨he, h.then hq⟩
theorem sym_on {d : Nat} (IH : SymSaid d) {w w1 : World} {bk : Nat} {l : List Stp} {tl : List Value} (n0 c : Nat) (a m b : Int) (h : PmE w w1 bk l tl) (hn0 : l.length = n0) (hl : n0 ≤ 1000) (hbd : ∀ s, s ∈ l → s.arc < 1000) (h0 : 0 ≤ a) (ham : a < m) (hmb : m < b) (hb : b ≤ n0) (hd : b - a ≤ d) :
    Calls Try.prog 148 #[.slice (some ⟨bk, 0, none⟩) n0 c, .int .i64 a, .int .i64 m, .int .i64 b, .func (.func 128) #[] #[]] w1 fun e w' => e = .returned (.tuple #[]) ∧ PmE w w' bk l tl := by
  obtain ⟨l', h⟩ := h
  obtain ⟨a', rfl⟩ := Int.eq_ofNat_of_zero_le h0
  obtain ⟨m', rfl⟩ := Int.eq_ofNat_of_zero_le (show 0 ≤ m by omega)
  obtain ⟨b', rfl⟩ := Int.eq_ofNat_of_zero_le (show 0 ≤ b by omega)
  refine (IH w1 bk l' tl n0 c a' m' b' h.st (h.len.trans hn0) hl (by omega) (by omega) (by omega) (h.arcs hbd) (by omega)).mono ?_
  rintro e w' ⟨he, hq⟩
  exact ⟨he, h.then hq⟩

set_option maxRecDepth 10000 in
set_option maxHeartbeats 4000000 in
theorem symMerge_gen {w : World} {bk : Nat} {l : List Stp} {tl : List Value} (d n0 c a m b : Nat) (IH : SymSaid d) (hB : StB w bk l tl) (hn0 : l.length = n0) (hl : n0 ≤ 1000) (ham : a + 1 < m) (hmb : m + 1 < b) (hbn : b ≤ n0) (hbd : ∀ s, s ∈ l → s.arc < 1000) (hd : b - a ≤ d + 1) :
    Calls Try.prog 148 #[.slice (some ⟨bk, 0, none⟩) n0 c, .int .i64 (a : Int), .int .i64 (m : Int), .int .i64 (b : Int), .func (.func 128) #[] #[]] w fun e w' => e = .returned (.tuple #[]) ∧ Pm w w' bk l tl := by
  have HB := Lib.hid (PmI.refl hB)
  have HN := Lib.hid hn0
  have HD := Lib.hid hbd
  have HIH := Lib.hid IH
  clear hB hn0 hbd IH
  have e0 : ((m : Int) - a == 1) = false := by rw [beq_eq_false_iff_ne]; omega
  have e1 : ((b : Int) - m == 1) = false := by rw [beq_eq_false_iff_ne]; omega
  obtain ⟨md, hmd⟩ : ∃ md : Nat, ((a : Int) + (b : Int)) / 2 = (md : Int) := ⟨(a + b) / 2, by omega⟩
  have m1 : a + 1 < md := by omega
  have m2 : md < b := by omega
  have m3 : 2 * md ≤ a + b := by omega
  have m4 : a + b ≤ 2 * md + 1 := by omega
  by_cases hm : md < m
  all_goals
    go_enter Try.func148, Try.ntmps148
    go_wp2
    go_loopw [20, 21] (fun i j wr => ∃ x y : Nat, a ≤ x ∧ x ≤ y ∧ y ≤ m ∧ y ≤ md ∧ md + m ≤ x + b ∧ i = .int .i64 x ∧ j = .int .i64 y ∧ Hid (PmI w wr bk l tl l)) (fun i j _ => (intOf j).toNat - (intOf i).toNat)
    case atStart => first | exact ⟨md + m - b, md, by omega, by omega, by omega, by omega, by omega, by congr 1; omega, rfl, HB⟩ | exact ⟨a, m, by omega, by omega, by omega, by omega, by omega, rfl, rfl, HB⟩
    case round =>
      obtain ⟨x, y, hx, hxy, hy, hy2, hx2, rfl, rfl, hI⟩ := hrel
      by_cases hlt : x < y
      · obtain ⟨h, hh⟩ : ∃ h : Nat, ((x : Int) + (y : Int)) / 2 = (h : Int) := ⟨(x + y) / 2, by omega⟩
        have hxh : x ≤ h := by omega
        have hhy : h < y := by omega
        obtain ⟨q, hq⟩ : ∃ q : Nat, (md : Int) + (m : Int) - 1 - (h : Int) = (q : Int) := ⟨md + m - 1 - h, by omega⟩
        have hqb : q < b := by omega
        have hlen := hI.out.len.trans HN.out
        have i0 : (0 : Int) ≤ (h : Int) := by omega
        have i1 : (h : Int) < (n0 : Int) := by omega
        have i2 : (q : Int) < (n0 : Int) := by omega
        have mk : ∀ w', PmI w w' bk l tl l → (w'.cell? ⟨bk, q * 2, none⟩ = some (.int .i64 ((stp l q).arc : Int)) ∧ w'.cell? ⟨bk, q * 2 + 1, none⟩ = some (.bool (stp l q).back) ∧ w'.cell? ⟨bk, h * 2, none⟩ = some (.int .i64 ((stp l h).arc : Int)) ∧ w'.cell? ⟨bk, h * 2 + 1, none⟩ = some (.bool (stp l h).back)) :=
          fun w' h => h.cells (by omega) (by omega)
        have MK := Lib.hid mk
        have HL := Lib.hid hlen
        clear mk hlen
        have i3 : (0 : Int) ≤ (q : Int) := by omega
        have hqw : IntKind.i64.wrap (q : Int) = (q : Int) := IntWalk.i64_in _ (by omega)
        go_wp2
        go_region_held3 (fun w' => w'.cell? ⟨bk, q * 2, none⟩ = some (.int .i64 ((stp l q).arc : Int)) ∧ w'.cell? ⟨bk, q * 2 + 1, none⟩ = some (.bool (stp l q).back) ∧ w'.cell? ⟨bk, h * 2, none⟩ = some (.int .i64 ((stp l h).arc : Int)) ∧ w'.cell? ⟨bk, h * 2 + 1, none⟩ = some (.bool (stp l h).back)) (first | exact MK.out _ hI.out.drew | exact MK.out _ (hI.out.drew.below hb1))
          (first | (go_at_call 128; refine (cmp_calls (stp l q) (stp l h) _ ?c1 ?c2).mono ?_; (case c1 => exact hI.out.arc HD.out (by rw [HL.out]; omega)); (case c2 => exact hI.out.arc HD.out (by rw [HL.out]; omega)); rintro e w1 ⟨rfl, hb1⟩))
        have HI := Lib.hid (hI.out.drew.below hb1)
        clear hb1 hI hqw
        go_wp2
        · go_roundw
          case rel => exact ⟨h + 1, y, by omega, by omega, hy, hy2, by omega, by go_num, rfl, HI⟩
          case measure => simp [intOf]; omega
        · go_roundw
          case rel => exact ⟨x, h, hx, by omega, by omega, by omega, hx2, rfl, rfl, HI⟩
          case measure => simp [intOf]; omega
      · have hxy' : x = y := by omega
        subst hxy'
        have hE := Lib.hid (show PmE w wr bk l tl from ⟨l, hI.out⟩)
        clear hI
        obtain ⟨en, hen⟩ : ∃ en : Nat, (md : Int) + (m : Int) - (x : Int) = (en : Int) := ⟨md + m - x, by omega⟩
        have n1 : en ≤ b := by omega
        have n2 : md ≤ en := by omega
        go_wp2_with (first | (go_at_call 152; refine (rotate_on n0 c _ _ _ _ (by assumption) HN.out hl (by omega) (by omega) (by omega) (by omega)).mono ?_; rintro e w2 ⟨rfl, hE2⟩; have HE2 := Lib.hid hE2; clear hE2) | (go_at_call 148; refine (sym_on HIH.out n0 c _ _ _ (by assumption) HN.out hl HD.out (by omega) (by omega) (by omega) (by omega) (by omega)).mono ?_; rintro e w2 ⟨rfl, hE2⟩; have HE2 := Lib.hid hE2; clear hE2))
        all_goals
          go_end0
          exact ⟨rfl, PmE.pm (by assumption)⟩

end Go.Proofs.Ythbffhlfdjpfaaa
