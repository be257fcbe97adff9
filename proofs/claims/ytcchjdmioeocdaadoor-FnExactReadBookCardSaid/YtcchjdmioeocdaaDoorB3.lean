/- The law FnExactPageLine's own contract: true for every page. No condition. -/
import Derived.Test.YtcchjdmioeocdaaDoorB2
namespace Go.Proofs.YtcchjdmioeocdaaDoor
open Go.RowKit
set_option maxRecDepth 100000 in
theorem laws_toPage (p : Page) (w : World) : Calls Tryd.prog 8 #[.agg p.cells] w fun e w' => e = .returned (.agg p.cells) ∧ Below w.heap.size w w' := by
  obtain ⟨a, b, c, d, e⟩ := p
  unfold Page.cells
  go_enter Tryd.func8, Tryd.ntmps8
  go_wp2
  exact bodyPost_ret (v := .agg #[.int .i64 a, .int .i64 b, .int .i64 c, .int .i64 d, .int .i64 e]) (by simp [results, Tryd.results8, go_sem]) rfl ⟨rfl, (((Below.refl _ _).alloc (Nat.le_refl _) _).alloc (by simp) _).alloc (by simp; omega) _⟩
set_option maxRecDepth 100000 in
theorem law_PageLine (p : Page) (w : World) (he : Env w) : Calls Tryd.prog 3 #[.agg p.cells] w fun e w' => e = .returned (.bool true) ∧ Below w.heap.size w w' := by
  have HT := Lib.hid (laws_toPage p)
  have HS := Lib.hid (spec_PageLine p)
  have HI := Lib.hid (impl_PageLine p)
  generalize pageLine p = l at *
  obtain ⟨a, b, c, d, e⟩ := p
  unfold Page.cells at *
  go_enter Tryd.func3, Tryd.ntmps3
  go_wp2_with (first
    | (go_at_call 8; refine (HT.out _).mono ?_; rintro e w1 ⟨rfl, hb1⟩; first | (replace hB := below_of_le hB hb1; replace hk := keep_blk hb1 hk) | (have hB : Below w.heap.size w w1 := below_of_le ((Below.refl _ _).alloc (Nat.le_refl _) _) hb1; have hk := keep_blk hb1 (blk_new w _ _)))
    | (go_at_call 7; refine (HS.out _).mono ?_; rintro e w1 ⟨rfl, hb1⟩; replace hB := below_of_le hB hb1; replace hk := keep_blk hb1 hk; have k0 := hk.cell 0; have k1 := hk.cell 1; have k2 := hk.cell 2; have k3 := hk.cell 3; have k4 := hk.cell 4; simp at k0 k1 k2 k3 k4)
    | (go_at_call 9; refine (HI.out _ (he.below hB he.size)).mono ?_; rintro e w1 ⟨rfl, hb1⟩; replace hB := below_of_le hB hb1))
  go_ret
  exact ⟨rfl, hB⟩
end Go.Proofs.YtcchjdmioeocdaaDoor
