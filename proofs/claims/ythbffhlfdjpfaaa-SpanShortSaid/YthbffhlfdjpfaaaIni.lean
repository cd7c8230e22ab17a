/- What the translation's head says, as a list of signs: the three facts on it that each row asks. -/
import Derived.Test.YthbffhlfdjpfaaaOp
namespace Go.Proofs.Ythbffhlfdjpfaaa
set_option linter.unusedVariables false
set_option linter.unusedSimpArgs false

def headSigns : List Char := List.map Char.ofNat [104, 97, 114, 110, 101, 115, 115, 32, 98, 51, 99, 51, 51, 57, 97, 102, 54, 54, 100, 102, 51, 55, 56, 53, 56, 50, 52, 48, 51, 100, 98, 51, 48, 53, 50, 49, 52, 102, 54, 52, 53, 102, 98, 56, 55, 53, 99, 97, 102, 48, 49, 100, 49, 50, 57, 102, 50, 97, 99, 56, 51, 49, 52, 101, 102, 53, 99, 99, 98, 50, 57, 97, 32, 99, 117, 116, 32, 97, 116, 32, 101, 98, 98, 116, 105, 100, 101, 47, 101, 98, 98, 116, 105, 100, 101, 108, 97, 119, 49, 50, 46, 83, 112, 97, 110, 87, 111, 114, 116, 104, 115, 32, 101, 98, 98, 116, 105, 100, 101, 47, 101, 98, 98, 116, 105, 100, 101, 108, 97, 119, 49, 50, 46, 83, 112, 97, 110, 77, 111, 115, 116, 32, 101, 98, 98, 116, 105, 100, 101, 47, 101, 98, 98, 116, 105, 100, 101, 108, 97, 119, 49, 50, 46, 83, 112, 97, 110, 66, 101, 115, 116, 32, 101, 98, 98, 116, 105, 100, 101, 47, 101, 98, 98, 116, 105, 100, 101, 108, 97, 119, 49, 50, 46, 83, 112, 97, 110, 84, 111, 112, 115, 32, 101, 98, 98, 116, 105, 100, 101, 47, 101, 98, 98, 116, 105, 100, 101, 108, 97, 119, 49, 50, 46, 83, 112, 97, 110, 83, 104, 111, 114, 116, 32, 101, 98, 98, 116, 105, 100, 101, 47, 101, 98, 98, 116, 105, 100, 101, 108, 97, 119, 48, 57, 46, 77, 97, 120, 102, 108, 111, 119, 86, 97, 108, 117, 101, 115, 32, 101, 98, 98, 116, 105, 100, 101, 47, 101, 98, 98, 116, 105, 100, 101, 108, 97, 119, 48, 57, 46, 77, 97, 120, 102, 108, 111, 119, 70, 108, 111, 119, 115, 32, 101, 98, 98, 116, 105, 100, 101, 47, 101, 98, 98, 116, 105, 100, 101, 108, 97, 119, 48, 57, 46, 77, 97, 120, 102, 108, 111, 119, 84, 111, 112, 115, 32, 101, 98, 98, 116, 105, 100, 101, 47, 101, 98, 98, 116, 105, 100, 101, 108, 97, 119, 48, 57, 46, 77, 97, 120, 102, 108, 111, 119, 77, 111, 114, 101, 32, 101, 98, 98, 116, 105, 100, 101, 47, 101, 98, 98, 116, 105, 100, 101, 108, 97, 119, 48, 57, 46, 77, 97, 120, 102, 108, 111, 119, 80, 97, 114, 116, 115, 32, 101, 98, 98, 116, 105, 100, 101, 47, 101, 98, 98, 116, 105, 100, 101, 108, 97, 119, 48, 57, 46, 77, 97, 120, 102, 108, 111, 119, 67, 111, 117, 110, 116, 115, 32, 101, 98, 98, 116, 105, 100, 101, 47, 101, 98, 98, 116, 105, 100, 101, 108, 97, 119, 49, 48, 46, 77, 105, 110, 99, 117, 116, 76, 101, 97, 115, 116, 32, 101, 98, 98, 116, 105, 100, 101, 47, 101, 98, 98, 116, 105, 100, 101, 108, 97, 119, 49, 48, 46, 77, 105, 110, 99, 117, 116, 66, 111, 117, 110, 100, 115, 32, 101, 98, 98, 116, 105, 100, 101, 47, 101, 98, 98, 116, 105, 100, 101, 108, 97, 119, 49, 48, 46, 77, 105, 110, 99, 117, 116, 83, 117, 109, 115, 32, 101, 98, 98, 116, 105, 100, 101, 47, 101, 98, 98, 116, 105, 100, 101, 108, 97, 119, 49, 48, 46, 77, 105, 110, 99, 117, 116, 77, 101, 101, 116, 115, 32, 101, 98, 98, 116, 105, 100, 101, 47, 101, 98, 98, 116, 105, 100, 101, 108, 97, 119, 49, 48, 46, 77, 105, 110, 99, 117, 116, 83, 105, 100, 101, 115, 32, 101, 98, 98, 116, 105, 100, 101, 47, 101, 98, 98, 116, 105, 100, 101, 108, 97, 119, 49, 51, 46, 68, 101, 99, 111, 109, 112, 70, 108, 111, 119, 115, 32, 101, 98, 98, 116, 105, 100, 101, 47, 101, 98, 98, 116, 105, 100, 101, 108, 97, 119, 49, 51, 46, 68, 101, 99, 111, 109, 112, 76, 101, 110, 103, 116, 104, 115, 32, 101, 98, 98, 116, 105, 100, 101, 47, 101, 98, 98, 116, 105, 100, 101, 108, 97, 119, 49, 51, 46, 68, 101, 99, 111, 109, 112, 87, 104, 111, 108, 101, 32, 101, 98, 98, 116, 105, 100, 101, 47, 101, 98, 98, 116, 105, 100, 101, 108, 97, 119, 49, 48, 46, 77, 105, 110, 99, 117, 116, 65, 110, 121, 32, 101, 98, 98, 116, 105, 100, 101, 47, 101, 98, 98, 116, 105, 100, 101, 108, 97, 119, 49, 51, 46, 68, 101, 99, 111, 109, 112, 83, 112, 108, 105, 116, 115, 32, 101, 98, 98, 116, 105, 100, 101, 47, 101, 98, 98, 116, 105, 100, 101, 108, 97, 119, 49, 51, 46, 68, 101, 99, 111, 109, 112, 67, 108, 101, 97, 110, 32, 101, 98, 98, 116, 105, 100, 101, 47, 101, 98, 98, 116, 105, 100, 101, 108, 97, 119, 49, 50, 46, 83, 112, 97, 110, 71, 114, 111, 119, 115, 32, 101, 98, 98, 116, 105, 100, 101, 47, 101, 98, 98, 116, 105, 100, 101, 108, 97, 119, 49, 50, 46, 83, 112, 97, 110, 83, 116, 105, 108, 108]
set_option maxRecDepth 100000 in
theorem head_list : Try.prog.initOrder.toList = headSigns := (String.toList_ofList : (String.ofList headSigns).toList = headSigns)
def cutSigns : List Char := List.map Char.ofNat [99, 117, 116]
theorem cut_signs : cutSigns = "cut".toList := by decide
set_option maxRecDepth 100000 in
theorem head_words : behindMainWord (wordsSigns headSigns) = cutSigns :: (behindMainWord (wordsSigns headSigns)).tail := by kernel_rfl
def headTail : List (List Char) := (behindMainWord (wordsSigns headSigns)).tail
theorem head_said : behindMainWord (wordsSigns Try.prog.initOrder.toList) = "cut".toList :: headTail :=
  (congrArg (fun l => behindMainWord (wordsSigns l)) head_list).trans (head_words.trans (congrArg (fun x => x :: headTail) cut_signs))
theorem e_gc : ("cut".toList == "gc".toList) = false := by decide
theorem e_spec : ("cut".toList == "spec".toList) = false := by decide
theorem e_cut : ("cut".toList == "cut".toList) = true := by decide
theorem e_carried : ("cut".toList == "carried".toList) = false := by decide
theorem e_some : (some "cut".toList == some "carried".toList) = false := by decide
theorem make_of (P : Program) (r : List (List Char)) (h : behindMainWord (wordsSigns P.initOrder.toList) = "cut".toList :: r) : P.make = some .cut := by
  unfold Program.make
  rw [h]
  simp only [e_gc, e_spec, e_cut, Bool.or_self, Bool.false_eq_true, if_false, Bool.true_or, if_true]
theorem make_cut : Try.prog.make = some .cut := make_of _ _ head_said
theorem strips (r : List (List Char)) : stripLifts liftWords ("cut".toList :: r) = ([], "cut".toList :: r) := by
  have k : ∀ os : List String, (∀ o, o ∈ os → ("cut".toList == o.toList) = false) → stripLifts os ("cut".toList :: r) = ([], "cut".toList :: r) := by
    intro os
    induction os with
    | nil => intro _; rfl
    | cons o os ih =>
      intro h
      rw [stripLifts, if_neg (by rw [h o (List.mem_cons_self ..)]; simp)]
      exact ih fun o' ho => h o' (List.mem_cons_of_mem _ ho)
  exact k _ (by decide)
theorem may_of (P : Program) (r : List (List Char)) (h : behindMainWord (wordsSigns P.initOrder.toList) = "cut".toList :: r) (h1 : P.laysLater = false) (h2 : P.bearsReflect = false) (h3 : P.doorFits [] = true) : P.mayEnter = true := by
  unfold Program.mayEnter
  rw [h]
  simp only [e_gc, e_spec, e_cut, e_carried, Bool.or_self, Bool.false_and, Bool.false_or, strips, h1, h2, h3]
  rfl
theorem lifts_of (P : Program) (r : List (List Char)) (h : behindMainWord (wordsSigns P.initOrder.toList) = "cut".toList :: r) : P.liftsFinal = false := by
  unfold Program.liftsFinal Program.headLifts
  rw [h]
  simp only [strips, List.head?_cons, e_some, Bool.false_and, Bool.false_or]
  split <;> rfl
theorem lays_later : Try.prog.laysLater = false := by kernel_rfl
theorem bears_reflect : Try.prog.bearsReflect = false := by kernel_rfl
theorem door_fits : Try.prog.doorFits [] = true := by kernel_rfl
theorem may_enter : Try.prog.mayEnter = true := may_of _ _ head_said lays_later bears_reflect door_fits
theorem lifts_final : Try.prog.liftsFinal = false := lifts_of _ _ head_said
end Go.Proofs.Ythbffhlfdjpfaaa
