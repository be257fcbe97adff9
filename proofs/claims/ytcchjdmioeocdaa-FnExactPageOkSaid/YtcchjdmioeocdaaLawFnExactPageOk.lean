/- The law FnExactPageOk: for every page it answers true, and the page reads as it did. -/
import Derived.Test.YtcchjdmioeocdaaRows
import Derived.Test.YtcchjdmioeocdaaCom
import Derived.Test.YtcchjdmioeocdaaPureFnExactPageOk
namespace Go.Proofs.Ytcchjdmioeocdaa.fnExactPageOk
open Go.ChangeShapes Go.WideShapes Go.ChangeAt Go.RowKit Go.Proofs.Ytcchjdmioeocdaa.Com Go.Proofs.Ytcchjdmioeocdaa.PFnExactPageOk Go.Proofs.YtcchjdmioeocdaaW.PrintWords
set_option linter.unusedVariables false
theorem own : ownKnob Try.prog.godebug = none := by kernel_rfl
theorem laid : laidOutB Try.prog = true := by kernel_rfl
structure S25 where
  f0 : Int
  f1 : Int
  f2 : Int
  f3 : Int
  f4 : Int
theorem opens25 : Opens Try.prog 25 (fun w (x : S25) cs => cs = [.int .i64 x.f0, .int .i64 x.f1, .int .i64 x.f2, .int .i64 x.f3, .int .i64 x.f4]) :=
  (opens_struct (sz := 5) Try.underlying25 (by kernel_rfl) (opensF_cons (s1 := 1) (s2 := 4) (off' := 1) rfl (by kernel_rfl) (opens_int Try.underlying3) rfl rfl
    (opensF_cons (s1 := 1) (s2 := 3) (off' := 2) rfl (by kernel_rfl) (opens_int Try.underlying3) rfl rfl (opensF_cons (s1 := 1) (s2 := 2) (off' := 3) rfl (by kernel_rfl) (opens_int Try.underlying3) rfl rfl
    (opensF_cons (s1 := 1) (s2 := 1) (off' := 4) rfl (by kernel_rfl) (opens_int Try.underlying3) rfl rfl (opensF_one rfl (by kernel_rfl) (opens_int Try.underlying3))))))).imp (fun x => ⟨x.1, x.2.1, x.2.2.1, x.2.2.2.1, x.2.2.2.2⟩) (by
      rintro w x cs ⟨_, _, rfl, ⟨rfl, _⟩, _, _, rfl, ⟨rfl, _⟩, _, _, rfl, ⟨rfl, _⟩, _, _, rfl, ⟨rfl, _⟩, ⟨rfl, _⟩⟩
      rfl)
set_option maxRecDepth 100000 in
theorem lifted (os : Os) (started : os.Started) (H : Type) (enc : TypeId × Value → H) :
    ReturnsInHanded {} Try.checked os 4 .any (Rows.fnExactPageOkSpec.pre6 enc Try.prog Try.f4 Rows.fnExactPageOkRow.domain false) (Rows.fnExactPageOkSpec.post enc Try.prog Try.f4 false true false false) := by
  refine lifted_law (C := Try.checked) own started (by kernel_rfl) Try.func4
    (ChangeSpec.witness6 (enc := enc) (C := Try.checked) false ⟨#[], #[.agg #[.int .i64 0, .int .i64 0, .int .i64 0, .int .i64 0, .int .i64 0]], []⟩ 8 (by kernel_rfl) (by kernel_rfl) (by kernel_rfl) (by kernel_rfl)) rfl (by kernel_rfl) Try.underlying4 laid ?_ ?_ ?_
  · intro t ht
    rw [Try.params4] at ht
    obtain rfl := List.mem_singleton.1 ht
    exact ⟨by kernel_rfl, of_decide_eq_true (by kernel_rfl)⟩
  · intro ds h
    rw [show Try.f4.params.size = 1 by kernel_rfl] at h
    obtain ⟨d, rfl⟩ := List.length_eq_one_iff.1 h
    rfl
  · intro W args ds ps hval hA _
    rw [Try.params4] at hA
    obtain ⟨v0, vs0, d0, ds0, p0, q0, hargs, rfl, rfl, h0, r0⟩ := trodAll_cons hA
    obtain ⟨rfl, rfl, rfl⟩ := trodAll_nil r0
    obtain rfl : args = #[v0] := by cases args; simp_all
    obtain ⟨base, ok0⟩ := hval 0 _ v0 (by rw [show Try.f4.params[0]? = some _ from by kernel_rfl]) rfl
    obtain ⟨x, hx⟩ := open_arg opens25 h0
    have hv := agg_of_cells Try.underlying25 ok0 hx
    subst hv
    exact laws_FnExactPageOk.calls x.f0 x.f1 x.f2 x.f3 x.f4 true W (Pure.FnExactPageOk _ _ _ _ _)
theorem over : Rows.fnExactPageOkRow.holds Try.pinned (OpenSpec.ofChange Rows.fnExactPageOkSpec) :=
  OpenClaim.holds_of_wide 4 Try.f4 rfl rfl rfl rfl rfl rfl rfl ⟨rfl, rfl, rfl, rfl, rfl⟩ rfl rfl rfl rfl rfl (by kernel_rfl) Try.func4 (by kernel_rfl)
    (of_decide_eq_true (by kernel_rfl)) (by unfold Func.isWrapper; first | (rw [if_pos (by decide +kernel)]; kernel_rfl) | (rw [if_neg (by decide +kernel)]; exact ⟨rfl, rfl⟩))
    (fun os started H enc _ => lifted os started H enc)
theorem proved : Rows.FnExactPageOkSaid := over
end Go.Proofs.Ytcchjdmioeocdaa.fnExactPageOk
namespace Go.Proofs.Ytcchjdmioeocdaa
/-- The row, under a short name, for the claim. -/
theorem fnExactPageOk_holds : Rows.FnExactPageOkSaid := fnExactPageOk.proved
end Go.Proofs.Ytcchjdmioeocdaa
