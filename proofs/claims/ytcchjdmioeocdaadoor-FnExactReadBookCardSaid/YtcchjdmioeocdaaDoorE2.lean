/- What a row lists of the library's variables, as the walks want it. No condition. -/
import Derived.Test.YtcchjdmioeocdaaDoorRows
import Derived.Test.YtcchjdmioeocdaaDoorCom2
import Derived.Test.YtcchjdmioeocdaaDoorB9
import Derived.Stop.LaidErr
import Derived.Shelf.Vars
namespace Go.Proofs.YtcchjdmioeocdaaDoor
open Go.ChangeShapes Go.WideShapes Go.ChangeAt Go.RowKit Go.Proofs.YtcchjdmioeocdaaDoor.Com
theorem star : "*" ++ "errors.errorString" = "*errors.errorString" := by decide
theorem row_err (u : TypeId) (h : Tryd.prog.typeName? 3 u = some "*errors.errorString") : u = 110 :=
  typeName_ptr_named (nm := "errors.errorString") (by rw [star]; kernel_rfl) (by kernel_rfl) (by decide) u (by rw [star]; exact h)
theorem env2_of {lst : List (String × DataW Unit)} {W : World} (h : laidMet Tryd.prog lst W) (m1 : ("internal/strconv.uint64pow10", Rows.laid_internal_strconv_uint64pow10) ∈ lst) (m2 : ("strconv.ErrSyntax", Rows.laid_strconv_ErrSyntax) ∈ lst) (m3 : ("strconv.ErrRange", Rows.laid_strconv_ErrRange) ∈ lst) (hs : W.ShapedOpen Tryd.prog) : Env2 W := by
  obtain ⟨r, h1⟩ := laidMet_mem h m1
  have ht := Lib.tabIs_of_head (P := Tryd.prog) (W := W) (name := "internal/strconv.uint64pow10") (k := .u64) (zs := Lib.pow10Tab) (rest := r) (g := 3) (t := 106) (e := 91) (n := 20) (by kernel_rfl) (by kernel_rfl) Tryd.underlying106 Tryd.underlying91 (by kernel_rfl) (by kernel_rfl) h1
  obtain ⟨r2, h2⟩ := laidMet_mem h m2
  obtain ⟨r3, h3⟩ := laidMet_mem h m3
  obtain ⟨a2, s2, v2, _⟩ := laid_sentinel (g := 1) (ti := 63) (tp := 110) (te := 112) (ts := 9) h2 (by kernel_rfl) (by kernel_rfl) Tryd.underlying63 row_err Tryd.underlying110 Tryd.underlying112 rfl rfl Tryd.underlying9 (by kernel_rfl) (by kernel_rfl)
  obtain ⟨a3, s3, v3, _⟩ := laid_sentinel (g := 2) (ti := 63) (tp := 110) (te := 112) (ts := 9) h3 (by kernel_rfl) (by kernel_rfl) Tryd.underlying63 row_err Tryd.underlying110 Tryd.underlying112 rfl rfl Tryd.underlying9 (by kernel_rfl) (by kernel_rfl)
  have hx : (((begin Tryd.prog (fun _ _ => 0) default).world.heap[7]?).bind Obj.row?).isSome = true := by kernel_rfl
  obtain ⟨⟨z, t⟩, hz⟩ := Option.isSome_iff_exists.1 hx
  obtain ⟨cs, hc, _⟩ := hs.1 7 z t (of_decide_eq_true (by kernel_rfl)) hz
  refine ⟨⟨ht, (Array.getElem?_eq_some_iff.1 hc).1⟩, ?_, ⟨_, _, v2⟩, ⟨_, _, v3⟩⟩
  have hy : ((((begin Tryd.prog (fun _ _ => 0) default).world.heap[0]?).bind Obj.row?).map fun y => (y.1.size, y.2)) = some (1, 3) := by kernel_rfl
  obtain ⟨⟨z0, t0⟩, hz0, hy⟩ := Option.map_eq_some_iff.1 hy
  simp only [Prod.mk.injEq] at hy
  obtain ⟨hy1, rfl⟩ := hy
  exact cell_of_shapedOpen_int hs (of_decide_eq_true (by kernel_rfl)) hz0 hy1 (by kernel_rfl) (by kernel_rfl) Tryd.underlying3
end Go.Proofs.YtcchjdmioeocdaaDoor
