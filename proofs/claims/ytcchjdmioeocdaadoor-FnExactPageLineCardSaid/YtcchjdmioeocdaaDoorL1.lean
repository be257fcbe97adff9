/- The law FnExactPageLine: for every page true, and the page reads as it did; the variables that its row lists are tied to the program's text. -/
import Derived.Test.YtcchjdmioeocdaaDoorRows
import Derived.Test.YtcchjdmioeocdaaDoorTie
import Derived.Test.YtcchjdmioeocdaaDoorCards
import Derived.Test.YtcchjdmioeocdaaDoorCom2
import Derived.Test.YtcchjdmioeocdaaDoorB3
import Derived.SevenTiedAt
namespace Go.Proofs.YtcchjdmioeocdaaDoor.PageLine
open Go.ChangeShapes Go.WideShapes Go.ChangeAt Go.RowKit Go.Proofs.YtcchjdmioeocdaaDoor.Com
set_option linter.unusedVariables false
theorem own : ownKnob Tryd.prog.godebug = none := by kernel_rfl
theorem laid : laidOutB Tryd.prog = true := by kernel_rfl
abbrev lst : List (String × DataW Unit) := Rows.fnExactPageLineRow.laid
theorem opensPage : Opens Tryd.prog 23 (fun w (x : Page) cs => cs = x.cells.toList) :=
  (opens_struct (sz := 5) Tryd.underlying23 (by kernel_rfl) (opensF_cons (s1 := 1) (s2 := 4) (off' := 1) rfl (by kernel_rfl) (opens_int Tryd.underlying3) rfl rfl
    (opensF_cons (s1 := 1) (s2 := 3) (off' := 2) rfl (by kernel_rfl) (opens_int Tryd.underlying3) rfl rfl (opensF_cons (s1 := 1) (s2 := 2) (off' := 3) rfl (by kernel_rfl) (opens_int Tryd.underlying3) rfl rfl
    (opensF_cons (s1 := 1) (s2 := 1) (off' := 4) rfl (by kernel_rfl) (opens_int Tryd.underlying3) rfl rfl (opensF_one rfl (by kernel_rfl) (opens_int Tryd.underlying3))))))).imp (fun x => ⟨x.1, x.2.1, x.2.2.1, x.2.2.2.1, x.2.2.2.2⟩) (by
      rintro w x cs ⟨_, _, rfl, ⟨rfl, _⟩, _, _, rfl, ⟨rfl, _⟩, _, _, rfl, ⟨rfl, _⟩, _, _, rfl, ⟨rfl, _⟩, ⟨rfl, _⟩⟩
      rfl)
theorem door_met (os : Os) (args : Array Value) : laidMetH Tryd.prog lst ((World.doorLaid Tryd.prog 400 os).forCall (fun _ _ => 0) ⟨#[], args, []⟩).memory :=
  laidMetH_of_parts3 (fuel := 8) (laidMet_of_run' 8 (by kernel_rfl) (by kernel_rfl)) (by kernel_rfl) (by kernel_rfl)
theorem env_of {W : World} (h : laidMetH Tryd.prog lst W) (hs : W.ShapedOpen Tryd.prog) : Env W := by
  have h' := h
  rw [MakeChecks.laidMetH_plain _ _ _ (by kernel_rfl)] at h
  obtain ⟨r, h⟩ := laidMet_mem (n := "internal/strconv.uint64pow10") (d := Rows.laid_internal_strconv_uint64pow10) h (by simp [lst, Rows.fnExactPageLineRow])
  have ht := Lib.tabIs_of_head (P := Tryd.prog) (W := W) (name := "internal/strconv.uint64pow10") (k := .u64) (zs := Lib.pow10Tab) (rest := r) (g := 3) (t := 106) (e := 91) (n := 20) (by kernel_rfl) (by kernel_rfl) Tryd.underlying106 Tryd.underlying91 (by kernel_rfl) (by kernel_rfl) h
  refine ⟨ht, ?_⟩
  have hx : (((begin Tryd.prog (fun _ _ => 0) default).world.heap[7]?).bind Obj.row?).isSome = true := by kernel_rfl
  obtain ⟨⟨z, t⟩, hz⟩ := Option.isSome_iff_exists.1 hx
  obtain ⟨cs, hc, _⟩ := hs.1 7 z t (of_decide_eq_true (by kernel_rfl)) hz
  exact (Array.getElem?_eq_some_iff.1 hc).1
set_option maxRecDepth 100000 in
theorem lifted (os : Os) (started : os.Started) (H : Type) (enc : TypeId × Value → H) :
    ReturnsInHanded {} Tryd.checked os 3 .any (fun w args => (Rows.fnExactPageLineSpec.pre enc Tryd.prog Tryd.f3 [] false w args ∧ laidMetH Tryd.prog lst w) ∧ sizedMet enc Tryd.prog Tryd.f3 (OpenSpec.ofChange Rows.fnExactPageLineSpec) false w args)
      (Rows.fnExactPageLineSpec.post enc Tryd.prog Tryd.f3 false true false false) := by
  refine lifted_laid (C := Tryd.checked) (X := fun w _ => laidMetH Tryd.prog lst w) (fun _ _ _ hh h => h.of_heap hh) own started (by kernel_rfl) Tryd.func3
    (ChangeSpec.witness_shaped (enc := enc) (C := Tryd.checked) (os := os) (X := fun w _ => laidMetH Tryd.prog lst w) false (World.doorLaid Tryd.prog 400 os) #[.agg #[.int .i64 0, .int .i64 0, .int .i64 0, .int .i64 0, .int .i64 0]] 8 rfl (World.shaped_of_RefB (by kernel_rfl) (by kernel_rfl)) (by kernel_rfl) (by kernel_rfl) (by kernel_rfl) (door_met os _)) rfl (by kernel_rfl) Tryd.underlying4 laid ?_ ?_ ?_
  · intro t ht
    rw [Tryd.params3] at ht
    obtain rfl := List.mem_singleton.1 ht
    exact ⟨by kernel_rfl, of_decide_eq_true (by kernel_rfl)⟩
  · intro ds h
    rw [show Tryd.f3.params.size = 1 by kernel_rfl] at h
    obtain ⟨d, rfl⟩ := List.length_eq_one_iff.1 h
    rfl
  · intro W args ds ps hval hA hL hS
    rw [Tryd.params3] at hA
    obtain ⟨v0, vs0, d0, ds0, p0, q0, hargs, rfl, rfl, h0, r0⟩ := trodAll_cons hA
    obtain ⟨rfl, rfl, rfl⟩ := trodAll_nil r0
    obtain rfl : args = #[v0] := by cases args; simp_all
    obtain ⟨base, ok0⟩ := hval 0 _ v0 (by rw [show Tryd.f3.params[0]? = some _ from by kernel_rfl]) rfl
    obtain ⟨x, hx⟩ := open_arg opensPage h0
    have hv := agg_of_cells Tryd.underlying23 ok0 hx
    subst hv
    exact law_PageLine x W (env_of hL hS)
theorem row_holds : Rows.FnExactPageLineSaid :=
  OpenClaim.holds_of_wide 3 Tryd.f3 rfl rfl rfl rfl rfl rfl rfl ⟨rfl, rfl, rfl, rfl, rfl⟩ rfl rfl rfl rfl rfl (by kernel_rfl) Tryd.func3 (by kernel_rfl)
    (of_decide_eq_true (by kernel_rfl)) (by unfold Func.isWrapper; first | (rw [if_pos (by decide +kernel)]; kernel_rfl) | (rw [if_neg (by decide +kernel)]; exact ⟨rfl, rfl⟩))
    (fun os started H enc _ => lifted os started H enc)
theorem card_holds : Rows.FnExactPageLineCardSaid :=
  Claim7.holds_tied_plain_at .later [] [.data, .data, .data] true Rows.fnExactPageLineCard.stood.harness true
    row_holds (fun _ h => by cases h) (by kernel_rfl) (fun _ h => by cases h) fnExactPageLine_row_tie rfl ⟨rfl, rfl⟩ (by kernel_rfl) rfl
    (fun f fn hf hfn => by
      obtain rfl : f = 3 := Option.some.inj ((show Tryd.prog.funcNamed "loop.example/g00808/laws.FnExactPageLine" = some 3 by kernel_rfl).symm.trans hf) |>.symm
      obtain rfl : fn = Tryd.f3 := (Option.some.inj (Tryd.func3.symm.trans hfn)).symm
      exact ⟨by kernel_rfl, fun j t ht => by
        rw [Tryd.params3] at ht
        have hm : t ∈ [23] := by simpa using Array.mem_of_getElem? ht
        have hall : ([23].all fun u => !Tryd.prog.wantsStandIn u) = true := by kernel_rfl
        exact (show Tryd.prog.wantsStandIn t = false by simpa using List.all_eq_true.1 hall t hm)⟩)
    (by kernel_rfl)#print axioms card_holds
end Go.Proofs.YtcchjdmioeocdaaDoor.PageLine
namespace Go.Proofs.YtcchjdmioeocdaaDoor
/-- The card, under a short name, for the claim. -/
theorem fnExactPageLine_card : Rows.FnExactPageLineCardSaid := PageLine.card_holds
end Go.Proofs.YtcchjdmioeocdaaDoor
