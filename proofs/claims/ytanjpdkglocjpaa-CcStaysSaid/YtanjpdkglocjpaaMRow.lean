/-
  CcStays: whatever happens a controller may be, and its window is a segment at least: for all numbers and rows of happenings the law returns true and leaves its arguments as they were.
-/
import Derived.Test.YtanjpdkglocjpaaMJ
import Derived.Test.YtanjpdkglocjpaaMF

namespace Go.Proofs.Ytanjpdkglocjpaa.stays
open Go Go.Im Go.Proofs

def smpOf : PVal → Option (List Sample)
  | .nils => some []
  | .slice .sample _ l => some l
  | _ => none
def intsOf : PVal → Option (List Int)
  | .nils => some []
  | .slice .i64 _ l => some l
  | _ => none
theorem smpOf_le {p : PVal} {l : List Sample} (h : smpOf p = some l) : LeV (.slice .sample false l) p := by
  unfold smpOf at h
  split at h
  · cases h; exact .nils _ _
  · cases h; exact .slice _ _ _ _ (by simp)
  · cases h
theorem intsOf_le {p : PVal} {l : List Int} (h : intsOf p = some l) : LeV (.slice .i64 false l) p := by
  unfold intsOf at h
  split at h
  · cases h; exact .nils _ _
  · cases h; exact .slice _ _ _ _ (by simp)
  · cases h
def S : FSpec := fun args bxs => match args, bxs with | [.int .i64 _, .int .i64 _, a, b], [] => (match smpOf a, intsOf b with | some _, some _ => some (true, .bool true, []) | _, _ => none) | _, _ => none
theorem sound : SoundF Try.prog 3 S := fun args bxs v bxs' h g w rargs inv hf rb ra => by
  unfold S at h
  split at h <;> (try (cases h; done))
  rename_i k mss a b
  split at h <;> (try (cases h; done))
  rename_i l wh hl hw
  cases h
  exact hasc3.sound [.i64 k, .i64 mss, .slice .sample false l, .slice .i64 false wh] [] (.bool true) [] rfl g w rargs inv hf rb (ra.le (leL_cons (.refl _) (leL_cons (.refl _) (leL_cons (smpOf_le hl) (leL_cons (intsOf_le hw) leL_nil)))))

theorem laidOut : laidOutB Try.prog = true := by kernel_rfl
theorem own : ownKnob Try.prog.godebug = none := by kernel_rfl
theorem params_ok : ∀ t ∈ Try.f3.params.toList, Try.prog.readableRec t = true ∧ t < Try.prog.types.size := by
  have h : (Try.f3.params.toList.all fun t => Try.prog.readableRec t && decide (t < Try.prog.types.size)) = true := by kernel_rfl
  intro t ht
  simpa using List.all_eq_true.1 h t ht

theorem meets {H : Type} {ds : List (DataW H)} {pargs : List PVal} (h : argsOf 4 [.int .i64, .int .i64, .slice .sample, .slice .i64] ds = some pargs) :
    S pargs [] = some (true, .bool true, []) ∧ Rows.ccStaysSpec.fn H ds = { results := [.lit (.bool true)], args := ds } := by
  obtain ⟨d1, _, _, _, rfl, h1, h2, rfl⟩ := argsOf_cons h
  obtain ⟨d2, _, _, _, rfl, h3, h4, rfl⟩ := argsOf_cons h2
  obtain ⟨d3, _, _, _, rfl, h5, h6, rfl⟩ := argsOf_cons h4
  obtain ⟨d4, _, _, _, rfl, h7, h8, rfl⟩ := argsOf_cons h6
  obtain ⟨rfl, rfl⟩ := argsOf_nil h8
  obtain ⟨x, rfl⟩ := ofD_form h1
  obtain ⟨y, rfl⟩ := ofD_form h3
  obtain ⟨p, rfl, hp⟩ := form_slice (ofD_form h5)
  obtain ⟨q, rfl, hq⟩ := form_slice (ofD_form h7)
  refine ⟨?_, rfl⟩
  rcases hp with rfl | ⟨l, rfl⟩ <;> rcases hq with rfl | ⟨m, rfl⟩ <;> rfl

set_option maxRecDepth 100000 in
theorem lifted (os : Os) (started : os.Started) (H : Type) (enc : TypeId × Value → H) :
    ReturnsInHanded {} Try.checked os 3 .any (Rows.ccStaysSpec.pre6 enc Try.prog Try.f3 Rows.ccStaysRow.domain false) (Rows.ccStaysSpec.post enc Try.prog Try.f3 false true false false) := by
  refine returnsInHanded_of_change (C := Try.checked) (s := Rows.ccStaysSpec) own started (by kernel_rfl) Try.func3
    (ChangeSpec.witness6 (enc := enc) (C := Try.checked) (s := Rows.ccStaysSpec) false ⟨#[], #[.int .i64 0, .int .i64 0, .slice none 0 0, .slice none 0 0], []⟩ 8 (by kernel_rfl) (by kernel_rfl) (by kernel_rfl) (by kernel_rfl)) ?_
  intro W base args ds gs before hval hW _ _
  exact contract_of (s := Rows.ccStaysSpec) (tb := 4) sound laidOut params_ok rfl (by kernel_rfl) (by kernel_rfl) (n := 4) (shs := [.int .i64, .int .i64, .slice .sample, .slice .i64]) (by kernel_rfl) hval hW (fun pargs h => meets h)

theorem over : Rows.ccStaysRow.holds Try.pinned (OpenSpec.ofChange Rows.ccStaysSpec) :=
  OpenClaim.holds_of_wide 3 Try.f3 rfl rfl rfl rfl rfl rfl rfl ⟨rfl, rfl, rfl, rfl, rfl⟩ rfl rfl rfl rfl rfl (by kernel_rfl) Try.func3 (by kernel_rfl)
    (of_decide_eq_true (by kernel_rfl)) (by unfold Func.isWrapper; first | (rw [if_pos (by decide +kernel)]; kernel_rfl) | (rw [if_neg (by decide +kernel)]; exact ⟨rfl, rfl⟩))
    (fun os started H enc _ => lifted os started H enc)

theorem proved : Rows.CcStaysSaid := over
end Go.Proofs.Ytanjpdkglocjpaa.stays
