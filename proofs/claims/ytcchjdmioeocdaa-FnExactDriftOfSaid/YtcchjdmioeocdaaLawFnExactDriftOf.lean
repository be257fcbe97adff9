/- The law FnExactDriftOf: for every list of pages it answers true, and the list reads as it did. -/
import Derived.Test.YtcchjdmioeocdaaRows
import Derived.Test.YtcchjdmioeocdaaCom
import Derived.Test.YtcchjdmioeocdaaPureFnExactDriftOf
namespace Go.Proofs.Ytcchjdmioeocdaa.fnExactDriftOf
open Go.ChangeShapes Go.WideShapes Go.ChangeAt Go.RowKit Go.Proofs.Ytcchjdmioeocdaa.Com Go.Proofs.Ytcchjdmioeocdaa.PFnExactDriftOf Go.Proofs.YtcchjdmioeocdaaW.PrintWords
set_option linter.unusedVariables false
theorem own : ownKnob Try.prog.godebug = none := by kernel_rfl
theorem laid : laidOutB Try.prog = true := by kernel_rfl
theorem opens25 : Opens Try.prog 25 (fun w (x : S25) cs => k25.K w x cs) :=
  (opens_struct (sz := 5) Try.underlying25 (by kernel_rfl) (opensF_cons (s1 := 1) (s2 := 4) (off' := 1) rfl (by kernel_rfl) (opens_int Try.underlying3) rfl rfl
    (opensF_cons (s1 := 1) (s2 := 3) (off' := 2) rfl (by kernel_rfl) (opens_int Try.underlying3) rfl rfl (opensF_cons (s1 := 1) (s2 := 2) (off' := 3) rfl (by kernel_rfl) (opens_int Try.underlying3) rfl rfl
    (opensF_cons (s1 := 1) (s2 := 1) (off' := 4) rfl (by kernel_rfl) (opens_int Try.underlying3) rfl rfl (opensF_one rfl (by kernel_rfl) (opens_int Try.underlying3))))))).imp (fun x => ⟨x.1, x.2.1, x.2.2.1, x.2.2.2.1, x.2.2.2.2⟩) (by
      rintro w x cs ⟨_, _, rfl, ⟨rfl, _⟩, _, _, rfl, ⟨rfl, _⟩, _, _, rfl, ⟨rfl, _⟩, _, _, rfl, ⟨rfl, _⟩, ⟨rfl, _⟩⟩
      exact k25_mk w _)
set_option maxRecDepth 100000 in
theorem lifted (os : Os) (started : os.Started) (H : Type) (enc : TypeId × Value → H) :
    ReturnsInHanded {} Try.checked os 6 .any (Rows.fnExactDriftOfSpec.pre6 enc Try.prog Try.f6 Rows.fnExactDriftOfRow.domain false) (Rows.fnExactDriftOfSpec.post enc Try.prog Try.f6 false true false false) := by
  refine lifted_law (C := Try.checked) own started (by kernel_rfl) Try.func6
    (ChangeSpec.witness6 (enc := enc) (C := Try.checked) false ⟨#[], #[.slice none 0 0], []⟩ 8 (by kernel_rfl) (by kernel_rfl) (by kernel_rfl) (by kernel_rfl)) rfl (by kernel_rfl) Try.underlying4 laid ?_ ?_ ?_
  · intro t ht
    rw [Try.params6] at ht
    obtain rfl := List.mem_singleton.1 ht
    exact ⟨by kernel_rfl, of_decide_eq_true (by kernel_rfl)⟩
  · intro ds h
    rw [show Try.f6.params.size = 1 by kernel_rfl] at h
    obtain ⟨d, rfl⟩ := List.length_eq_one_iff.1 h
    rfl
  · intro W args ds ps hval hA _
    rw [Try.params6] at hA
    obtain ⟨v0, vs0, d0, ds0, p0, q0, hargs, rfl, rfl, h0, r0⟩ := trodAll_cons hA
    obtain ⟨rfl, rfl, rfl⟩ := trodAll_nil r0
    obtain rfl : args = #[v0] := by cases args; simp_all
    obtain ⟨base, ok0⟩ := hval 0 _ v0 (by rw [show Try.f6.params[0]? = some _ from by kernel_rfl]) rfl
    obtain ⟨xs, A, c, hcs, hle, hrow⟩ := open_arg (opens_slice Try.underlying30 (sz := 5) (by kernel_rfl) opens25) h0
    obtain rfl : v0 = .slice A xs.length c := slice_of_cells Try.underlying30 ok0 hcs
    obtain ⟨k, hk⟩ := Pure.FnExactDriftOf xs (by have := hrow.2.1; exact this)
    exact laws_FnExactDriftOf.calls k A c xs true W hrow hle hk
theorem over : Rows.fnExactDriftOfRow.holds Try.pinned (OpenSpec.ofChange Rows.fnExactDriftOfSpec) :=
  OpenClaim.holds_of_wide 6 Try.f6 rfl rfl rfl rfl rfl rfl rfl ⟨rfl, rfl, rfl, rfl, rfl⟩ rfl rfl rfl rfl rfl (by kernel_rfl) Try.func6 (by kernel_rfl)
    (of_decide_eq_true (by kernel_rfl)) (by unfold Func.isWrapper; first | (rw [if_pos (by decide +kernel)]; kernel_rfl) | (rw [if_neg (by decide +kernel)]; exact ⟨rfl, rfl⟩))
    (fun os started H enc _ => lifted os started H enc)
theorem proved : Rows.FnExactDriftOfSaid := over
end Go.Proofs.Ytcchjdmioeocdaa.fnExactDriftOf
namespace Go.Proofs.Ytcchjdmioeocdaa
/-- The row, under a short name, for the claim. -/
theorem fnExactDriftOf_holds : Rows.FnExactDriftOfSaid := fnExactDriftOf.proved
end Go.Proofs.Ytcchjdmioeocdaa
