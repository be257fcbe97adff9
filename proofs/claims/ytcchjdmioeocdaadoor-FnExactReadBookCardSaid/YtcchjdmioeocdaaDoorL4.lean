/- The law FnExactReadBook: for every text true; the variables that its row lists are tied to the program's text. -/
import Derived.Test.YtcchjdmioeocdaaDoorRows
import Derived.Test.YtcchjdmioeocdaaDoorTie
import Derived.Test.YtcchjdmioeocdaaDoorCards
import Derived.Test.YtcchjdmioeocdaaDoorCom2
import Derived.Test.YtcchjdmioeocdaaDoorB18
import Derived.Test.YtcchjdmioeocdaaDoorE2
import Derived.Lay
import Derived.SevenTiedAt
namespace Go.Proofs.YtcchjdmioeocdaaDoor.ReadBook
open Go.ChangeShapes Go.WideShapes Go.ChangeAt Go.RowKit Go.Proofs.YtcchjdmioeocdaaDoor.Com
set_option linter.unusedVariables false
theorem own : ownKnob Tryd.prog.godebug = none := by kernel_rfl
theorem laid : laidOutB Tryd.prog = true := by kernel_rfl
abbrev lst : List (String × DataW Unit) := Rows.fnExactReadBookRow.laid
theorem env_of {W : World} (h : laidMetH Tryd.prog lst W) (hs : W.ShapedOpen Tryd.prog) : Env2 W := by
  rw [MakeChecks.laidMetH_plain _ _ _ (by kernel_rfl)] at h
  exact env2_of h (by simp [lst, Rows.fnExactReadBookRow]) (by simp [lst, Rows.fnExactReadBookRow]) (by simp [lst, Rows.fnExactReadBookRow]) hs
set_option maxRecDepth 100000 in
theorem lifted (os : Os) (started : os.Started) (H : Type) (enc : TypeId × Value → H) :
    ReturnsInHanded {} Tryd.checked os 6 .any (fun w args => (Rows.fnExactReadBookSpec.pre enc Tryd.prog Tryd.f6 [] false w args ∧ laidMetH Tryd.prog lst w) ∧ sizedMet enc Tryd.prog Tryd.f6 (OpenSpec.ofChange Rows.fnExactReadBookSpec) false w args)
      (Rows.fnExactReadBookSpec.post enc Tryd.prog Tryd.f6 false true false false) := by
  refine lifted_laid (C := Tryd.checked) (X := fun w _ => laidMetH Tryd.prog lst w) (fun _ _ _ hh h => h.of_heap hh) own started (by kernel_rfl) Tryd.func6
    (ChangeSpec.witness_shaped (enc := enc) (C := Tryd.checked) (os := os) (X := fun w _ => laidMetH Tryd.prog lst w) false (World.laidAll Tryd.prog os lst) #[.string ⟨#[]⟩] 8 (World.laidAll_os _ _ _) (World.shaped_of_ZipB (by kernel_rfl) (by kernel_rfl)) (by kernel_rfl) (by kernel_rfl) (by kernel_rfl) (by rw [MakeChecks.laidMetH_plain _ _ _ (by kernel_rfl)]; exact laidMet_laidAll _ (by kernel_rfl) (by kernel_rfl))) rfl (by kernel_rfl) Tryd.underlying4 laid ?_ ?_ ?_
  · intro t ht
    rw [Tryd.params6] at ht
    obtain rfl := List.mem_singleton.1 ht
    exact ⟨by kernel_rfl, of_decide_eq_true (by kernel_rfl)⟩
  · intro ds h
    rw [show Tryd.f6.params.size = 1 by kernel_rfl] at h
    obtain ⟨d, rfl⟩ := List.length_eq_one_iff.1 h
    rfl
  · intro W args ds ps hval hA hL hS
    rw [Tryd.params6] at hA
    obtain ⟨v0, vs0, d0, ds0, p0, q0, hargs, rfl, rfl, h0, r0⟩ := trodAll_cons hA
    obtain ⟨rfl, rfl, rfl⟩ := trodAll_nil r0
    obtain rfl : args = #[v0] := by cases args; simp_all
    obtain ⟨base, ok0⟩ := hval 0 _ v0 (by rw [show Tryd.f6.params[0]? = some _ from by kernel_rfl]) rfl
    obtain ⟨s, hs, hsz⟩ := open_arg (opens_string Tryd.underlying9) h0
    have hv := string_of_cells Tryd.underlying9 ok0 hs
    subst hv
    exact law_ReadBook s W (env_of hL hS)
theorem row_holds : Rows.FnExactReadBookSaid :=
  OpenClaim.holds_of_wide 6 Tryd.f6 rfl rfl rfl rfl rfl rfl rfl ⟨rfl, rfl, rfl, rfl, rfl⟩ rfl rfl rfl rfl rfl (by kernel_rfl) Tryd.func6 (by kernel_rfl)
    (of_decide_eq_true (by kernel_rfl)) (by unfold Func.isWrapper; first | (rw [if_pos (by decide +kernel)]; kernel_rfl) | (rw [if_neg (by decide +kernel)]; exact ⟨rfl, rfl⟩))
    (fun os started H enc _ => lifted os started H enc)
theorem card_holds : Rows.FnExactReadBookCardSaid :=
  Claim7.holds_tied_plain_at .later [] [.data, .data, .data, .data, .sentinel, .sentinel, .pinned] true Rows.fnExactReadBookCard.stood.harness true
    row_holds (fun _ h => by cases h) (by kernel_rfl) (fun _ h => by cases h) fnExactReadBook_row_tie rfl ⟨rfl, rfl⟩ (by kernel_rfl) rfl
    (fun f fn hf hfn => by
      obtain rfl : f = 6 := Option.some.inj ((show Tryd.prog.funcNamed "loop.example/g00808/laws.FnExactReadBook" = some 6 by kernel_rfl).symm.trans hf) |>.symm
      obtain rfl : fn = Tryd.f6 := (Option.some.inj (Tryd.func6.symm.trans hfn)).symm
      exact ⟨by kernel_rfl, fun j t ht => by
        rw [Tryd.params6] at ht
        have hm : t ∈ [9] := by simpa using Array.mem_of_getElem? ht
        have hall : ([9].all fun u => !Tryd.prog.wantsStandIn u) = true := by kernel_rfl
        exact (show Tryd.prog.wantsStandIn t = false by simpa using List.all_eq_true.1 hall t hm)⟩)
    (by kernel_rfl)#print axioms card_holds
end Go.Proofs.YtcchjdmioeocdaaDoor.ReadBook
namespace Go.Proofs.YtcchjdmioeocdaaDoor
/-- The card, under a short name, for the claim. -/
theorem fnExactReadBook_card : Rows.FnExactReadBookCardSaid := ReadBook.card_holds
end Go.Proofs.YtcchjdmioeocdaaDoor
