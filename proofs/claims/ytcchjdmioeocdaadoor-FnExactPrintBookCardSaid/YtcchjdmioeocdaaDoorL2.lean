/- The law FnExactPrintBook: for every list true, and the list reads as it did; the variables that its row lists are tied to the program's text. -/
import Derived.Test.YtcchjdmioeocdaaDoorRows
import Derived.Test.YtcchjdmioeocdaaDoorTie
import Derived.Test.YtcchjdmioeocdaaDoorCards
import Derived.Test.YtcchjdmioeocdaaDoorCom2
import Derived.Test.YtcchjdmioeocdaaDoorB6
import Derived.Test.YtcchjdmioeocdaaDoorR2
import Derived.SevenTiedAt
namespace Go.Proofs.YtcchjdmioeocdaaDoor.PrintBook
open Go.ChangeShapes Go.WideShapes Go.ChangeAt Go.RowKit Go.Proofs.YtcchjdmioeocdaaDoor.Com
set_option linter.unusedVariables false
theorem own : ownKnob Tryd.prog.godebug = none := by kernel_rfl
theorem laid : laidOutB Tryd.prog = true := by kernel_rfl
abbrev lst : List (String × DataW Unit) := Rows.fnExactPrintBookRow.laid
theorem opensPage : Opens Tryd.prog 23 (fun _ (x : Page) cs => cs = pg x) :=
  (opens_struct (sz := 5) Tryd.underlying23 (by kernel_rfl) (opensF_cons (s1 := 1) (s2 := 4) (off' := 1) rfl (by kernel_rfl) (opens_int Tryd.underlying3) rfl rfl
    (opensF_cons (s1 := 1) (s2 := 3) (off' := 2) rfl (by kernel_rfl) (opens_int Tryd.underlying3) rfl rfl (opensF_cons (s1 := 1) (s2 := 2) (off' := 3) rfl (by kernel_rfl) (opens_int Tryd.underlying3) rfl rfl
    (opensF_cons (s1 := 1) (s2 := 1) (off' := 4) rfl (by kernel_rfl) (opens_int Tryd.underlying3) rfl rfl (opensF_one rfl (by kernel_rfl) (opens_int Tryd.underlying3))))))).imp (fun x => ⟨x.1, x.2.1, x.2.2.1, x.2.2.2.1, x.2.2.2.2⟩) (by
      rintro w x cs ⟨_, _, rfl, ⟨rfl, _⟩, _, _, rfl, ⟨rfl, _⟩, _, _, rfl, ⟨rfl, _⟩, _, _, rfl, ⟨rfl, _⟩, ⟨rfl, _⟩⟩
      rfl)
theorem opensPages : Opens Tryd.prog 28 (fun w (xs : List Page) cs => ∃ A c, cs = [.slice A xs.length c] ∧ xs.length ≤ c ∧ RowC (fun _ (x : Page) cs => cs = pg x) 5 w A xs.length xs) := opens_slice Tryd.underlying28 (by kernel_rfl) opensPage
theorem door_met (os : Os) (args : Array Value) : laidMetH Tryd.prog lst ((World.doorLaid Tryd.prog 400 os).forCall (fun _ _ => 0) ⟨#[], args, []⟩).memory :=
  laidMetH_of_parts3 (fuel := 8) (laidMet_of_run' 8 (by kernel_rfl) (by kernel_rfl)) (by kernel_rfl) (by kernel_rfl)
theorem env_of {W : World} (h : laidMetH Tryd.prog lst W) (hs : W.ShapedOpen Tryd.prog) : Env W := by
  have h' := h
  rw [MakeChecks.laidMetH_plain _ _ _ (by kernel_rfl)] at h
  obtain ⟨r, h⟩ := laidMet_mem (n := "internal/strconv.uint64pow10") (d := Rows.laid_internal_strconv_uint64pow10) h (by simp [lst, Rows.fnExactPrintBookRow])
  have ht := Lib.tabIs_of_head (P := Tryd.prog) (W := W) (name := "internal/strconv.uint64pow10") (k := .u64) (zs := Lib.pow10Tab) (rest := r) (g := 3) (t := 106) (e := 91) (n := 20) (by kernel_rfl) (by kernel_rfl) Tryd.underlying106 Tryd.underlying91 (by kernel_rfl) (by kernel_rfl) h
  refine ⟨ht, ?_⟩
  have hx : (((begin Tryd.prog (fun _ _ => 0) default).world.heap[7]?).bind Obj.row?).isSome = true := by kernel_rfl
  obtain ⟨⟨z, t⟩, hz⟩ := Option.isSome_iff_exists.1 hx
  obtain ⟨cs, hc, _⟩ := hs.1 7 z t (of_decide_eq_true (by kernel_rfl)) hz
  exact (Array.getElem?_eq_some_iff.1 hc).1
set_option maxRecDepth 100000 in
theorem lifted (os : Os) (started : os.Started) (H : Type) (enc : TypeId × Value → H) :
    ReturnsInHanded {} Tryd.checked os 4 .any (fun w args => (Rows.fnExactPrintBookSpec.pre enc Tryd.prog Tryd.f4 [] false w args ∧ laidMetH Tryd.prog lst w) ∧ sizedMet enc Tryd.prog Tryd.f4 (OpenSpec.ofChange Rows.fnExactPrintBookSpec) false w args)
      (Rows.fnExactPrintBookSpec.post enc Tryd.prog Tryd.f4 false true false false) := by
  refine lifted_laid (C := Tryd.checked) (X := fun w _ => laidMetH Tryd.prog lst w) (fun _ _ _ hh h => h.of_heap hh) own started (by kernel_rfl) Tryd.func4
    (ChangeSpec.witness_shaped (enc := enc) (C := Tryd.checked) (os := os) (X := fun w _ => laidMetH Tryd.prog lst w) false (World.doorLaid Tryd.prog 400 os) #[.slice none 0 0] 8 rfl (World.shaped_of_RefB (by kernel_rfl) (by kernel_rfl)) (by kernel_rfl) (by kernel_rfl) (by kernel_rfl) (door_met os _)) rfl (by kernel_rfl) Tryd.underlying4 laid ?_ ?_ ?_
  · intro t ht
    rw [Tryd.params4] at ht
    obtain rfl := List.mem_singleton.1 ht
    exact ⟨by kernel_rfl, of_decide_eq_true (by kernel_rfl)⟩
  · intro ds h
    rw [show Tryd.f4.params.size = 1 by kernel_rfl] at h
    obtain ⟨d, rfl⟩ := List.length_eq_one_iff.1 h
    rfl
  · intro W args ds ps hval hA hL hS
    rw [Tryd.params4] at hA
    obtain ⟨v0, vs0, d0, ds0, p0, q0, hargs, rfl, rfl, h0, r0⟩ := trodAll_cons hA
    obtain ⟨rfl, rfl, rfl⟩ := trodAll_nil r0
    obtain rfl : args = #[v0] := by cases args; simp_all
    obtain ⟨base, ok0⟩ := hval 0 _ v0 (by rw [show Tryd.f4.params[0]? = some _ from by kernel_rfl]) rfl
    obtain ⟨xs, A, c, hcs, hle, hrow⟩ := open_arg opensPages h0
    have hv := slice_of_cells Tryd.underlying28 ok0 hcs
    subst hv
    exact law_PrintBook A xs c hrow.2.1 W (env_of hL hS) (row_of (by decide) hrow)
theorem row_holds : Rows.FnExactPrintBookSaid :=
  OpenClaim.holds_of_wide 4 Tryd.f4 rfl rfl rfl rfl rfl rfl rfl ⟨rfl, rfl, rfl, rfl, rfl⟩ rfl rfl rfl rfl rfl (by kernel_rfl) Tryd.func4 (by kernel_rfl)
    (of_decide_eq_true (by kernel_rfl)) (by unfold Func.isWrapper; first | (rw [if_pos (by decide +kernel)]; kernel_rfl) | (rw [if_neg (by decide +kernel)]; exact ⟨rfl, rfl⟩))
    (fun os started H enc _ => lifted os started H enc)
theorem card_holds : Rows.FnExactPrintBookCardSaid :=
  Claim7.holds_tied_plain_at .later [] [.data, .data, .data] true Rows.fnExactPrintBookCard.stood.harness true
    row_holds (fun _ h => by cases h) (by kernel_rfl) (fun _ h => by cases h) fnExactPrintBook_row_tie rfl ⟨rfl, rfl⟩ (by kernel_rfl) rfl
    (fun f fn hf hfn => by
      obtain rfl : f = 4 := Option.some.inj ((show Tryd.prog.funcNamed "loop.example/g00808/laws.FnExactPrintBook" = some 4 by kernel_rfl).symm.trans hf) |>.symm
      obtain rfl : fn = Tryd.f4 := (Option.some.inj (Tryd.func4.symm.trans hfn)).symm
      exact ⟨by kernel_rfl, fun j t ht => by
        rw [Tryd.params4] at ht
        have hm : t ∈ [28] := by simpa using Array.mem_of_getElem? ht
        have hall : ([28].all fun u => !Tryd.prog.wantsStandIn u) = true := by kernel_rfl
        exact (show Tryd.prog.wantsStandIn t = false by simpa using List.all_eq_true.1 hall t hm)⟩)
    (by kernel_rfl)#print axioms card_holds
end Go.Proofs.YtcchjdmioeocdaaDoor.PrintBook
namespace Go.Proofs.YtcchjdmioeocdaaDoor
/-- The card, under a short name, for the claim. -/
theorem fnExactPrintBook_card : Rows.FnExactPrintBookCardSaid := PrintBook.card_holds
end Go.Proofs.YtcchjdmioeocdaaDoor
