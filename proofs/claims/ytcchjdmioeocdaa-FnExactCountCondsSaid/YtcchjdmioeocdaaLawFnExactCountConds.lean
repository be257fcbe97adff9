/- The law FnExactCountConds: for every list of pages it answers true, and the list reads as it did. -/
import Derived.Test.YtcchjdmioeocdaaRows
import Derived.Test.YtcchjdmioeocdaaCom
import Derived.Test.YtcchjdmioeocdaaPureFnExactCountConds
namespace Go.Proofs.Ytcchjdmioeocdaa.fnExactCountConds
open Go.ChangeShapes Go.WideShapes Go.ChangeAt Go.RowKit Go.Proofs.Ytcchjdmioeocdaa.Com Go.Proofs.Ytcchjdmioeocdaa.PFnExactCountConds Go.Proofs.YtcchjdmioeocdaaW.PrintWords
set_option linter.unusedVariables false
theorem own : ownKnob Try.prog.godebug = none := by kernel_rfl
theorem laid : laidOutB Try.prog = true := by kernel_rfl
theorem opens25 : Opens Try.prog 25 (fun w (x : S25) cs => k25.K w x cs) :=
  (opens_struct (sz := 5) Try.underlying25 (by kernel_rfl) (opensF_cons (s1 := 1) (s2 := 4) (off' := 1) rfl (by kernel_rfl) (opens_int Try.underlying3) rfl rfl
    (opensF_cons (s1 := 1) (s2 := 3) (off' := 2) rfl (by kernel_rfl) (opens_int Try.underlying3) rfl rfl (opensF_cons (s1 := 1) (s2 := 2) (off' := 3) rfl (by kernel_rfl) (opens_int Try.underlying3) rfl rfl
    (opensF_cons (s1 := 1) (s2 := 1) (off' := 4) rfl (by kernel_rfl) (opens_int Try.underlying3) rfl rfl (opensF_one rfl (by kernel_rfl) (opens_int Try.underlying3))))))).imp (fun x => ⟨x.1, x.2.1, x.2.2.1, x.2.2.2.1, x.2.2.2.2⟩) (by
      rintro w x cs ⟨_, _, rfl, ⟨rfl, _⟩, _, _, rfl, ⟨rfl, _⟩, _, _, rfl, ⟨rfl, _⟩, _, _, rfl, ⟨rfl, _⟩, ⟨rfl, _⟩⟩
      exact k25_mk w _)
set_option maxRecDepth 100000 in
theorem lifted (os : Os) (started : os.Started) (H : Type) (enc : TypeId × Value → H) :
    ReturnsInHanded {} Try.checked os 8 .any (Rows.fnExactCountCondsSpec.pre6 enc Try.prog Try.f8 Rows.fnExactCountCondsRow.domain false) (Rows.fnExactCountCondsSpec.post enc Try.prog Try.f8 false true false false) := by
  refine lifted_law (C := Try.checked) own started (by kernel_rfl) Try.func8
    (ChangeSpec.witness6 (enc := enc) (C := Try.checked) false ⟨#[], #[.slice none 0 0], []⟩ 8 (by kernel_rfl) (by kernel_rfl) (by kernel_rfl) (by kernel_rfl)) rfl (by kernel_rfl) Try.underlying4 laid ?_ ?_ ?_
  · intro t ht
    rw [Try.params8] at ht
    obtain rfl := List.mem_singleton.1 ht
    exact ⟨by kernel_rfl, of_decide_eq_true (by kernel_rfl)⟩
  · intro ds h
    rw [show Try.f8.params.size = 1 by kernel_rfl] at h
    obtain ⟨d, rfl⟩ := List.length_eq_one_iff.1 h
    rfl
  · intro W args ds ps hval hA _
    rw [Try.params8] at hA
    obtain ⟨v0, vs0, d0, ds0, p0, q0, hargs, rfl, rfl, h0, r0⟩ := trodAll_cons hA
    obtain ⟨rfl, rfl, rfl⟩ := trodAll_nil r0
    obtain rfl : args = #[v0] := by cases args; simp_all
    obtain ⟨base, ok0⟩ := hval 0 _ v0 (by rw [show Try.f8.params[0]? = some _ from by kernel_rfl]) rfl
    obtain ⟨xs, A, c, hcs, hle, hrow⟩ := open_arg (opens_slice Try.underlying30 (sz := 5) (by kernel_rfl) opens25) h0
    obtain rfl : v0 = .slice A xs.length c := slice_of_cells Try.underlying30 ok0 hcs
    obtain ⟨k, hk⟩ := Pure.FnExactCountConds xs (by have := hrow.2.1; exact this)
    exact laws_FnExactCountConds.calls k A c xs true W hrow hle hk
theorem over : Rows.fnExactCountCondsRow.holds Try.pinned (OpenSpec.ofChange Rows.fnExactCountCondsSpec) :=
  OpenClaim.holds_of_wide 8 Try.f8 rfl rfl rfl rfl rfl rfl rfl ⟨rfl, rfl, rfl, rfl, rfl⟩ rfl rfl rfl rfl rfl (by kernel_rfl) Try.func8 (by kernel_rfl)
    (of_decide_eq_true (by kernel_rfl)) (by unfold Func.isWrapper; first | (rw [if_pos (by decide +kernel)]; kernel_rfl) | (rw [if_neg (by decide +kernel)]; exact ⟨rfl, rfl⟩))
    (fun os started H enc _ => lifted os started H enc)
theorem proved : Rows.FnExactCountCondsSaid := over
end Go.Proofs.Ytcchjdmioeocdaa.fnExactCountConds
namespace Go.Proofs.Ytcchjdmioeocdaa
/-- The row, under a short name, for the claim. -/
theorem fnExactCountConds_holds : Rows.FnExactCountCondsSaid := fnExactCountConds.proved
end Go.Proofs.Ytcchjdmioeocdaa
