/-
  BbrSteady: on an even path startup ends, and the window becomes twice what the path holds: for all numbers the law returns true and leaves its arguments as they were.
-/
import Derived.Test.YtdlkpklhonphlaaMI
import Derived.Test.YtdlkpklhonphlaaMF

namespace Go.Proofs.Ytdlkpklhonphlaa.steady
open Go Go.Im Go.Proofs

theorem laidOut : laidOutB Try.prog = true := by kernel_rfl
theorem own : ownKnob Try.prog.godebug = none := by kernel_rfl
theorem params_ok : ∀ t ∈ Try.f3.params.toList, Try.prog.readableRec t = true ∧ t < Try.prog.types.size := by
  have h : (Try.f3.params.toList.all fun t => Try.prog.readableRec t && decide (t < Try.prog.types.size)) = true := by kernel_rfl
  intro t ht
  simpa using List.all_eq_true.1 h t ht

theorem meets {H : Type} {ds : List (DataW H)} {pargs : List PVal} (h : argsOf 4 [.int .i64, .int .i64, .int .i64] ds = some pargs) :
    S3 pargs [] = some (true, .bool true, []) ∧ Rows.bbrSteadySpec.fn H ds = { results := [.lit (.bool true)], args := ds } := by
  obtain ⟨d1, _, _, _, rfl, h1, h2, rfl⟩ := argsOf_cons h
  obtain ⟨d2, _, _, _, rfl, h3, h4, rfl⟩ := argsOf_cons h2
  obtain ⟨d3, _, _, _, rfl, h5, h6, rfl⟩ := argsOf_cons h4
  obtain ⟨rfl, rfl⟩ := argsOf_nil h6
  obtain ⟨x, rfl⟩ := ofD_form h1
  obtain ⟨y, rfl⟩ := ofD_form h3
  obtain ⟨z, rfl⟩ := ofD_form h5
  exact ⟨rfl, rfl⟩

set_option maxRecDepth 100000 in
theorem lifted (os : Os) (started : os.Started) (H : Type) (enc : TypeId × Value → H) :
    ReturnsInHanded {} Try.checked os 3 .any (Rows.bbrSteadySpec.pre6 enc Try.prog Try.f3 Rows.bbrSteadyRow.domain false) (Rows.bbrSteadySpec.post enc Try.prog Try.f3 false true false false) := by
  refine returnsInHanded_of_change (C := Try.checked) (s := Rows.bbrSteadySpec) own started (by kernel_rfl) Try.func3
    (ChangeSpec.witness6 (enc := enc) (C := Try.checked) (s := Rows.bbrSteadySpec) false ⟨#[], #[.int .i64 0, .int .i64 0, .int .i64 0], []⟩ 8 (by kernel_rfl) (by kernel_rfl) (by kernel_rfl) (by kernel_rfl)) ?_
  intro W base args ds gs before hval hW _ _
  exact contract_of (s := Rows.bbrSteadySpec) (tb := 4) has3.sound laidOut params_ok rfl (by kernel_rfl) (by kernel_rfl) (n := 4) (shs := [.int .i64, .int .i64, .int .i64]) (by kernel_rfl) hval hW (fun pargs h => meets h)

theorem over : Rows.bbrSteadyRow.holds Try.pinned (OpenSpec.ofChange Rows.bbrSteadySpec) :=
  OpenClaim.holds_of_wide 3 Try.f3 rfl rfl rfl rfl rfl rfl rfl ⟨rfl, rfl, rfl, rfl, rfl⟩ rfl rfl rfl rfl rfl (by kernel_rfl) Try.func3 (by kernel_rfl)
    (of_decide_eq_true (by kernel_rfl)) (by unfold Func.isWrapper; first | (rw [if_pos (by decide +kernel)]; kernel_rfl) | (rw [if_neg (by decide +kernel)]; exact ⟨rfl, rfl⟩))
    (fun os started H enc _ => lifted os started H enc)

theorem proved : Rows.BbrSteadySaid := over
end Go.Proofs.Ytdlkpklhonphlaa.steady
