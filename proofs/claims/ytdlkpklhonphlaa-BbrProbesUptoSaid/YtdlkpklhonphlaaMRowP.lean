/-
  BbrProbes: an old shortest time is asked anew: for every controller and sample of bulk at most 1048576 the law returns true and leaves its arguments as they were.
-/
import Derived.Test.YtdlkpklhonphlaaMH
import Derived.Test.YtdlkpklhonphlaaMF

namespace Go.Proofs.Ytdlkpklhonphlaa.probes
open Go Go.Im Go.Proofs

def ccSh : Sh := .strct [.int .i64, .int .i64, .int .i64, .int .i64, .int .i64, .int .i64, .int .i64, .int .i64, .int .i64, .int .i64, .int .i64, .slice .entry, .int .i64, .int .i64, .int .i64, .int .i64, .int .i64, .int .i64, .int .i64, .int .i64, .int .i64, .int .i64]

theorem laidOut : laidOutB Try.prog = true := by kernel_rfl
theorem own : ownKnob Try.prog.godebug = none := by kernel_rfl
theorem params_ok : ∀ t ∈ Try.f4.params.toList, Try.prog.readableRec t = true ∧ t < Try.prog.types.size := by
  have h : (Try.f4.params.toList.all fun t => Try.prog.readableRec t && decide (t < Try.prog.types.size)) = true := by kernel_rfl
  intro t ht
  simpa using List.all_eq_true.1 h t ht

theorem cc_of {H : Type} {n : Nat} {d : DataW H} {pcs : List PVal} (h : ofD n ccSh d = some pcs) : ∃ c, decCcW pcs = some c ∧ c.Bw.length ≤ Rows.uptoBulk d := by
  have hs := ofD_short n _ _ _ h
  obtain ⟨_, _, rfl, ⟨a0, rfl⟩, _, _, rfl, ⟨a1, rfl⟩, _, _, rfl, ⟨a2, rfl⟩, _, _, rfl, ⟨a3, rfl⟩, _, _, rfl, ⟨a4, rfl⟩, _, _, rfl, ⟨a5, rfl⟩, _, _, rfl, ⟨a6, rfl⟩, _, _, rfl, ⟨a7, rfl⟩, _, _, rfl, ⟨a8, rfl⟩, _, _, rfl, ⟨a9, rfl⟩, _, _, rfl, ⟨a10, rfl⟩, _, _, rfl, hb, _, _, rfl, ⟨a12, rfl⟩, _, _, rfl, ⟨a13, rfl⟩, _, _, rfl, ⟨a14, rfl⟩, _, _, rfl, ⟨a15, rfl⟩, _, _, rfl, ⟨a16, rfl⟩, _, _, rfl, ⟨a17, rfl⟩, _, _, rfl, ⟨a18, rfl⟩, _, _, rfl, ⟨a19, rfl⟩, _, _, rfl, ⟨a20, rfl⟩, _, _, rfl, ⟨a21, rfl⟩, rfl⟩ := ofD_strct h
  obtain ⟨p, rfl, hp⟩ := form_slice hb
  rcases hp with rfl | ⟨l, rfl⟩
  · exact ⟨⟨a0, a1, a2, a3, a4, a5, a6, a7, a8, a9, a10, [], a12, a13, a14, a15, a16, a17, a18, a19, a20, a21⟩, rfl, by simp⟩
  · refine ⟨⟨a0, a1, a2, a3, a4, a5, a6, a7, a8, a9, a10, l, a12, a13, a14, a15, a16, a17, a18, a19, a20, a21⟩, rfl, ?_⟩
    exact hs (.slice .entry false l) (by simp)
theorem sample_of {H : Type} {n : Nat} {d : DataW H} {pcs : List PVal} (h : ofD n U.sample.sh d = some pcs) : ∃ s, decS pcs = some s := by
  obtain ⟨_, _, rfl, ⟨a, rfl⟩, _, _, rfl, ⟨b, rfl⟩, _, _, rfl, ⟨c, rfl⟩, _, _, rfl, ⟨d, rfl⟩, _, _, rfl, ⟨e, rfl⟩, _, _, rfl, ⟨f, rfl⟩, _, _, rfl, ⟨k, rfl⟩, _, _, rfl, ⟨m, rfl⟩, rfl⟩ := ofD_strct h
  exact ⟨⟨a, b, c, d, e, f, k, m⟩, rfl⟩

theorem meets {H : Type} {ds : List (DataW H)} (hk : Rows.uptoSmall H ds = true) {pargs : List PVal} (h : argsOf 4 [ccSh, U.sample.sh] ds = some pargs) :
    S4 pargs [] = some (true, .bool true, []) ∧ Rows.bbrProbesSpec.fn H ds = { results := [.lit (.bool true)], args := ds } := by
  have hb := upto_bound hk
  obtain ⟨d1, _, pcs, _, rfl, h1, h2, rfl⟩ := argsOf_cons h
  obtain ⟨d2, _, pcs2, _, rfl, h3, h4, rfl⟩ := argsOf_cons h2
  obtain ⟨rfl, rfl⟩ := argsOf_nil h4
  obtain ⟨c, hc, hcl⟩ := cc_of h1
  obtain ⟨s, hs⟩ := sample_of h3
  simp only [Rows.uptoBulkAll] at hb
  have : Nat.blt c.Bw.length 4294967296 = true := by simp only [Nat.blt_eq]; omega
  refine ⟨?_, rfl⟩
  show S4 [.agg pcs, .agg pcs2] [] = _
  simp only [S4, hc, hs, this]

set_option maxRecDepth 100000 in
theorem lifted (os : Os) (started : os.Started) (H : Type) (enc : TypeId × Value → H) (F : Stop.Interp) :
    ReturnsInHanded {} Try.checked os 4 .any ((Rows.OpenSpec.upto Rows.bbrProbesSpec).pre6 enc Try.prog Try.f4 Rows.bbrProbesUptoRow.domain false) (((Rows.OpenSpec.upto Rows.bbrProbesSpec).at F).post enc Try.prog Try.f4 false true false false) := by
  refine returnsInHanded_of_cond (C := Try.checked) (s := Rows.OpenSpec.upto Rows.bbrProbesSpec) (k := Rows.uptoSmall) rfl own started (by kernel_rfl) Try.func4
    (OpenSpec.witness (enc := enc) (C := Try.checked) (s := Rows.OpenSpec.upto Rows.bbrProbesSpec) (k := Rows.uptoSmall) rfl false
      ⟨#[], #[.agg (#[.int .i64 0, .int .i64 0, .int .i64 0, .int .i64 0, .int .i64 0, .int .i64 0, .int .i64 0, .int .i64 0, .int .i64 0, .int .i64 0, .int .i64 0, .slice none 0 0, .int .i64 0, .int .i64 0, .int .i64 0, .int .i64 0, .int .i64 0, .int .i64 0, .int .i64 0, .int .i64 0, .int .i64 0, .int .i64 0]), .agg #[.int .i64 0, .int .i64 0, .int .i64 0, .int .i64 0, .bool false, .int .i64 0, .int .i64 0, .int .i64 0]], []⟩ 8 (by kernel_rfl) (by kernel_rfl) (by kernel_rfl)
      (x := ([.agg [.lit (.int .i64 0), .lit (.int .i64 0), .lit (.int .i64 0), .lit (.int .i64 0), .lit (.int .i64 0), .lit (.int .i64 0), .lit (.int .i64 0), .lit (.int .i64 0), .lit (.int .i64 0), .lit (.int .i64 0), .lit (.int .i64 0), .nil, .lit (.int .i64 0), .lit (.int .i64 0), .lit (.int .i64 0), .lit (.int .i64 0), .lit (.int .i64 0), .lit (.int .i64 0), .lit (.int .i64 0), .lit (.int .i64 0), .lit (.int .i64 0), .lit (.int .i64 0)], .agg [.lit (.int .i64 0), .lit (.int .i64 0), .lit (.int .i64 0), .lit (.int .i64 0), .lit (.bool false), .lit (.int .i64 0), .lit (.int .i64 0), .lit (.int .i64 0)]], [], [])) (by kernel_rfl) rfl (by kernel_rfl)) ?_
  intro W base args ds gs before hval hW _ hk _
  have hgs : gs = [] := by
    obtain ⟨p, q, -, hV, -, -, -⟩ := hW
    exact (ChangeShapes.trodVars_none hV).1
  subst hgs
  rw [List.append_nil] at hk
  exact contract_of (s := Rows.bbrProbesSpec) (tb := 4) has4.sound laidOut params_ok rfl (by kernel_rfl) (by kernel_rfl) (n := 4) (shs := [ccSh, U.sample.sh]) (by kernel_rfl) hval hW (fun pargs h => meets hk h)

theorem over : Rows.bbrProbesUptoRow.holds Try.pinned (Rows.OpenSpec.upto Rows.bbrProbesSpec) :=
  OpenClaim.holds_of_cond 4 Try.f4 rfl rfl rfl rfl rfl rfl rfl ⟨rfl, rfl, rfl, rfl, rfl⟩ rfl rfl rfl rfl rfl (by kernel_rfl) Try.func4 (by kernel_rfl)
    (of_decide_eq_true (by kernel_rfl)) (by unfold Func.isWrapper; first | (rw [if_pos (by decide +kernel)]; kernel_rfl) | (rw [if_neg (by decide +kernel)]; exact ⟨rfl, rfl⟩))
    (fun os started H enc _ F => lifted os started H enc F)

theorem proved : Rows.BbrProbesUptoSaid := over
end Go.Proofs.Ytdlkpklhonphlaa.probes
