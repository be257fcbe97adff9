/- The law FnExactParsePage's own contract: true for every text. No condition. -/
import Derived.Test.YtcchjdmioeocdaaDoorB12
namespace Go.Proofs.YtcchjdmioeocdaaDoor
open Go.RowKit
set_option maxRecDepth 100000 in
theorem law_ParsePage (s : ByteArray) (w : World) (he : Env2 w) : Calls Tryd.prog 5 #[.string s] w fun e w' => e = .returned (.bool true) ∧ Below w.heap.size w w' := by
  by_cases hbig : 1048576 < s.size
  · have hbig' : (1048576 : Int) < s.size := by omega
    go_enter Tryd.func5, Tryd.ntmps5
    go_wp2
    go_ret
    exact ⟨rfl, Below.refl _ _⟩
  have hbig' : ¬ (1048576 : Int) < s.size := by omega
  have HS := Lib.hid (spec_ParsePage s)
  have HI := Lib.hid (impl_ParsePage s (by omega))
  generalize parsePage s = r at *
  obtain ⟨⟨a, b, c, d, e⟩, t⟩ := r
  have HQ := Lib.hid (laws_eqPage ⟨a, b, c, d, e⟩)
  unfold got pg at HS HI
  unfold pg at HQ
  simp only [] at HS HI HQ
  go_enter Tryd.func5, Tryd.ntmps5
  go_wp2_with (first
    | (go_at_call 15; refine (HS.out _).mono ?_; rintro e w1 ⟨rfl, hB⟩; have hk := blk_new w1 #[.int .i64 a, .int .i64 b, .int .i64 c, .int .i64 d, .int .i64 e] 25; replace hB := hB.alloc hB.size (.cells #[.int .i64 a, .int .i64 b, .int .i64 c, .int .i64 d, .int .i64 e] 25))
    | (go_at_call 16; refine (HI.out _ (he.below hB he.env.size)).mono ?_; rintro e w2 ⟨rfl, hb2⟩; replace hB := below_of_le hB hb2; replace hk := keep_blk ((Below.refl _ _).alloc (Nat.le_refl _) (.cells #[.int .i64 a, .int .i64 b, .int .i64 c, .int .i64 d, .int .i64 e] 25)) (keep_blk hb2 hk); obtain ⟨k0, k1, k2, k3, k4⟩ := blk5 hk; replace hB := hB.alloc hB.size (.cells #[.int .i64 a, .int .i64 b, .int .i64 c, .int .i64 d, .int .i64 e] 25))
    | (go_at_call 17; refine (HQ.out _).mono ?_; rintro e w3 ⟨rfl, hb3⟩; replace hB := below_of_le hB hb3))
  go_ret
  exact ⟨rfl, hB⟩
end Go.Proofs.YtcchjdmioeocdaaDoor
