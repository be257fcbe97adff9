/- The law FnExactReadBook's own contract: true for every text. No condition. -/
import Derived.Test.YtcchjdmioeocdaaDoorB17
import Derived.Test.YtcchjdmioeocdaaDoorB13
namespace Go.Proofs.YtcchjdmioeocdaaDoor
open Go.RowKit
theorem Own.row {α : Type} {f : α → List Value} {sz : Nat} {e : TypeId} {B : Nat} {w : World} {A : Option Addr} {m c : Nat} {xs : List α} (hf : ∀ x, (f x).length = sz) (h : Own e f sz B w (.slice A m c) xs) : Row f sz w A xs := by
  obtain ⟨A', c', he, _, _, r⟩ := h.open hf
  injection he with h1 h2 h3
  subst h1
  exact r
theorem readL_len : ∀ (ls : List ByteArray) (i : Nat) (s : Int) (acc : List Page), (readL ls i s acc).1.length ≤ acc.length + ls.length
  | [], i, s, acc => by simp [readL]
  | l :: ls, i, s, acc => by
    unfold readL
    split
    · simp
    · split
      · have := readL_len ls (i + 1) (nextSum l s) (acc ++ [(parsePage (before l)).1])
        simp at this ⊢
        omega
      · simp
theorem readBook_len (t : ByteArray) : (readBook t).1.length ≤ t.size + 1 := by
  have h := readL_len (lines t) 0 0 []
  have h2 := lines_le t
  unfold readBook
  split
  · simp at h; omega
  · split
    · simp at h ⊢; omega
    · simp at h; omega
set_option maxHeartbeats 2000000 in
set_option maxRecDepth 100000 in
theorem law_ReadBook (t : ByteArray) (w : World) (he : Env2 w) : Calls Tryd.prog 6 #[.string t] w fun e w' => e = .returned (.bool true) ∧ Below w.heap.size w w' := by
  by_cases hbig : 1048576 < t.size
  · have hbig' : (1048576 : Int) < t.size := by omega
    go_enter Tryd.func6, Tryd.ntmps6
    go_wp2
    go_ret
    exact ⟨rfl, Below.refl _ _⟩
  have hbig' : ¬ (1048576 : Int) < t.size := by omega
  have HS := Lib.hid (spec_ReadBook t (by omega))
  have HI := Lib.hid (impl_ReadBook t (by omega))
  have hn : (readBook t).1.length ≤ 1048577 := by have := readBook_len t; omega
  generalize readBook t = r at *
  obtain ⟨xs, x⟩ := r
  simp only [] at HS HI hn
  have HN := Lib.hid hn
  have hq1 : ¬ (1 : Int) + 5 * (xs.length : Int) < 0 := by omega
  clear hn
  go_enter Tryd.func6, Tryd.ntmps6
  go_wp2_with (go_at_call 18; refine (HS.out _).mono ?_; rintro e w1 ⟨v1, rfl, ho1, hb⟩; obtain ⟨A1, c1, rfl, -, -, -⟩ := ho1.open pg_len; have HB := Lib.hid hb; have HW := Lib.hid hb.size; have HF1 := Lib.hid ho1.lt; have HO1 := Lib.hid ho1; clear hb ho1)
  go_wp2_with (go_at_call 19; refine (HI.out _ (he.below HB.out he.env.size)).mono ?_; rintro e w2 ⟨v2, rfl, ho2, hb2⟩; obtain ⟨A2, c2, rfl, -, -, -⟩ := ho2.open pg_len; have HF2 := Lib.hid (fun g h => (ho2.foot g h).1); replace HO1 := Lib.hid (HO1.out.below hb2); replace HB := Lib.hid (below_of_le HB.out hb2); have HO2 := Lib.hid ho2; clear ho2 hb2)
  go_wp2_with (go_at_call 14; refine (laws_eqPageS A2 A1 xs c2 c1 (by have := HN.out; omega) _ (HO2.out.row pg_len) (HO1.out.row pg_len)).mono ?_; rintro e w3 ⟨rfl, hb3⟩; replace HO1 := Lib.hid (HO1.out.below hb3); replace HO2 := Lib.hid (HO2.out.below hb3); replace HB := Lib.hid (below_of_le HB.out hb3); clear hb3)
  go_wp2_with (go_at_call 20; refine (laws_markPageS w1.heap.size _ xs 1 _ (by omega) (by have := HN.out; omega) HO2.out).mono ?_; rintro e w4 ⟨rfl, hm, honly⟩; replace HO1 := Lib.hid (HO1.out.keep fun g h => honly.block g (HO1.out.lt g h) (fun e => absurd (HF1.out g h) (by have := HF2.out g e; omega))); replace HB := Lib.hid (honly.below HB.out HB.out.size (fun k h => Nat.le_trans HW.out (HF2.out k h))); replace HO2 := Lib.hid hm; clear hm honly)
  go_wp2_with (go_at_call 21; refine (laws_heldPageS A2 c2 xs.length 1 _ (by omega) (by have := HN.out; omega) (HO2.out.row pg_len)).mono ?_; rintro e w5 ⟨rfl, hb5⟩; replace HO1 := Lib.hid (HO1.out.below hb5); replace HO2 := Lib.hid (HO2.out.below hb5); replace HB := Lib.hid (below_of_le HB.out hb5); clear hb5)
  go_wp2_with (go_at_call 19; refine (HI.out _ (he.below HB.out he.env.size)).mono ?_; rintro e w6 ⟨v3, rfl, ho3, hb6⟩; obtain ⟨A3, c3, rfl, -, -, -⟩ := ho3.open pg_len; replace HO1 := Lib.hid (HO1.out.below hb6); replace HO2 := Lib.hid (HO2.out.below hb6); replace HB := Lib.hid (below_of_le HB.out hb6); have HO3 := Lib.hid ho3; clear ho3 hb6)
  go_wp2_with (go_at_call 14; refine (laws_eqPageS A3 A1 xs c3 c1 (by have := HN.out; omega) _ (HO3.out.row pg_len) (HO1.out.row pg_len)).mono ?_; rintro e w7 ⟨rfl, hb7⟩; replace HO2 := Lib.hid (HO2.out.below hb7); replace HB := Lib.hid (below_of_le HB.out hb7); clear hb7)
  go_wp2_with (go_at_call 21; refine (laws_heldPageS A2 c2 xs.length 1 _ (by omega) (by have := HN.out; omega) (HO2.out.row pg_len)).mono ?_; rintro e w8 ⟨rfl, hb8⟩; replace HB := Lib.hid (below_of_le HB.out hb8); clear hb8)
  go_ret
  exact ⟨rfl, HB.out⟩
end Go.Proofs.YtcchjdmioeocdaaDoor
