/- From a slice that was opened to a row. No condition. -/
import Derived.Test.YtcchjdmioeocdaaDoorR1
import Derived.Test.YtcchjdmioeocdaaDoorCom2
namespace Go.Proofs.YtcchjdmioeocdaaDoor
open Go.RowKit Go.Proofs.YtcchjdmioeocdaaDoor.Com
theorem row_of {α : Type} {f : α → List Value} {sz n : Nat} {w : World} {A : Option Addr} {xs : List α} (h0 : 0 < sz) (h : RowC (fun _ x cs => cs = f x) sz w A n xs) : Row f sz w A xs := by
  obtain ⟨hl, hm, h⟩ := h
  refine ⟨fun j x hx => ?_⟩
  have hj := (List.getElem?_eq_some_iff.1 hx).1
  obtain ⟨ad, rfl, hc⟩ := h (by omega)
  have hs : ad.spot = none := by
    obtain ⟨c, hcl, rfl, hcc⟩ := hc 0 xs[0] (by simp)
    have := hcc 0 _ (List.getElem?_eq_getElem (by omega))
    rw [Nat.zero_mul, Nat.zero_add] at this
    unfold Addr.add at this
    rw [if_pos rfl] at this
    unfold World.cell? at this
    split at this
    · split at this
      · cases this
      · rename_i h1; simpa using h1
    · cases this
  obtain ⟨g, o, s⟩ := ad
  subst hs
  refine ⟨g, o, rfl, fun i u hu => ?_⟩
  obtain ⟨c, hcl, rfl, hcc⟩ := hc j x hx
  have := hcc i u hu
  rwa [add_at, ← Nat.add_assoc] at this
end Go.Proofs.YtcchjdmioeocdaaDoor
