/- The law FnExactPrintBook's own contract: true for every list. No condition. -/
import Derived.Test.YtcchjdmioeocdaaDoorB5
namespace Go.Proofs.YtcchjdmioeocdaaDoor
open Go.RowKit
set_option maxRecDepth 100000 in
theorem law_PrintBook (A : Option Addr) (xs : List Page) (c : Nat) (hn' : xs.length ≤ 9223372036854775807) (w : World) (he : Env w) (h : Row pg 5 w A xs) :
    Calls Tryd.prog 4 #[.slice A xs.length c] w fun e w' => e = .returned (.bool true) ∧ Below w.heap.size w w' := by
  have H := Lib.hid h
  clear h
  have hb := Below.refl w.heap.size w
  by_cases hbig : 1048576 < xs.length
  · have hd : (1048576 : Int) < xs.length := by omega
    go_enter Tryd.func4, Tryd.ntmps4
    go_wp2_with (go_at_call 10; refine (laws_szPageS A xs.length c 1048576 (by omega) (by omega) (by omega) _).mono ?_; rintro e w1 ⟨rfl, rfl⟩; rw [if_pos hd])
    go_ret
    exact ⟨rfl, hb⟩
  have hd : ¬ (1048576 : Int) < xs.length := by omega
  have h0 : (0 : Int) ≤ 1048576 - xs.length := by omega
  have hn : xs.length ≤ 9223372036854775806 := by omega
  generalize hp : printBook xs = s
  obtain ⟨s, t⟩ := s
  have HP := Lib.hid hp
  clear hp
  go_enter Tryd.func4, Tryd.ntmps4
  go_wp2_with (go_at_call 10; refine (laws_szPageS A xs.length c 1048576 (by omega) (by omega) (by omega) _).mono ?_; rintro e w1 ⟨rfl, rfl⟩; rw [if_neg hd])
  go_wp2_with (go_at_call 12; refine (laws_toPageS A xs c (by omega) _ H.out).mono ?_; rintro e w1 ⟨v, rfl, ho, hb1⟩; obtain ⟨A1, c1, rfl, _, _, r1⟩ := ho.open pg_len; replace r1 := Lib.hid r1; replace hb := below_of_le hb hb1; clear ho hb1)
  go_wp2_with (go_at_call 11; refine (spec_PrintBook A1 xs c1 hn _ r1.out).mono ?_; rintro e w2 ⟨rfl, hb2⟩; rw [HP.out]; replace hb := below_of_le hb hb2; clear hb2 r1)
  go_wp2_with (go_at_call 12; refine (laws_toPageS A xs c (by omega) _ (H.out.below hb)).mono ?_; rintro e w3 ⟨v, rfl, ho, hb3⟩; obtain ⟨A3, c3, rfl, _, _, r3⟩ := ho.open pg_len; replace r3 := Lib.hid r3; replace hb := below_of_le hb hb3; clear ho hb3)
  go_wp2_with (go_at_call 13; refine (impl_PrintBook A3 xs c3 hn _ (he.below hb he.size) r3.out).mono ?_; rintro e w4 ⟨rfl, hb4⟩; rw [HP.out]; replace hb := below_of_le hb hb4; replace r3 := Lib.hid (r3.out.below hb4); clear hb4)
  go_wp2_with (go_at_call 12; refine (laws_toPageS A xs c (by omega) _ (H.out.below hb)).mono ?_; rintro e w5 ⟨v, rfl, ho, hb5⟩; obtain ⟨A5, c5, rfl, _, _, r5⟩ := ho.open pg_len; replace r5 := Lib.hid r5; replace hb := below_of_le hb hb5; replace r3 := Lib.hid (r3.out.below hb5); clear ho hb5)
  go_wp2_with (go_at_call 14; refine (laws_eqPageS A3 A5 xs c3 c5 hn _ r3.out r5.out).mono ?_; rintro e w6 ⟨rfl, hb6⟩; replace hb := below_of_le hb hb6)
  go_ret
  exact ⟨rfl, hb⟩
end Go.Proofs.YtcchjdmioeocdaaDoor
