/- PrintBook, of the reference and of the program: both write printBook. No condition. -/
import Derived.Test.YtcchjdmioeocdaaDoorB4
namespace Go.Proofs.YtcchjdmioeocdaaDoor
open Go.RowKit
theorem isEmpty_false {l : ByteArray} (h : ¬ l = ⟨#[]⟩) : l.toList.isEmpty = false := by
  rw [ByteArray.toList_eq]
  cases hl : l.data.toList with
  | nil => exact absurd (ByteArray.ext (by rw [← Array.toArray_toList (xs := l.data), hl])) h
  | cons a t => rfl
def nl : ByteArray := ⟨#[10]⟩
def em : ByteArray := ⟨#[]⟩
def printL (out : ByteArray) (sum : Int) : List Page → ByteArray × Bool
  | [] => (out, true)
  | p :: ps => if pageLine p = em then (em, false) else printL (out ++ pageLine p ++ sp ++ num (sumOf (pageLine p ++ sp ++ num sum)) ++ nl) (sumOf (pageLine p ++ sp ++ num sum)) ps
def printBook (xs : List Page) : ByteArray × Bool := if 200 < xs.length then (em, false) else printL em 0 xs
theorem pageLine_size (p : Page) : (pageLine p).size ≤ 94 := by
  unfold pageLine
  split
  · rename_i h
    obtain ⟨i1, i2, i3, i4⟩ := pageOk_I64 h
    have z1 := num_size i1
    have z2 := num_size i2
    have z3 := num_size i3
    have z4 := num_size i4
    have z5 := condName_size p.cond
    have : sp.size = 1 := rfl
    simp only [ByteArray.size_append]
    omega
  · show 0 ≤ 94; omega
theorem sum_I64 {n : Int} (h : 0 ≤ n ∧ n < 1000003) : I64 n := by unfold I64; omega
theorem ret_pair {s t : ByteArray} {b c : Bool} (h : (s, b) = (t, c)) : Ending.returned (.tuple #[.string s, .bool b]) = .returned (.tuple #[.string t, .bool c]) := by
  injection h with h1 h2
  rw [h1, h2]
set_option maxRecDepth 100000 in
theorem spec_PrintBook (A : Option Addr) (xs : List Page) (c : Nat) (hn : xs.length ≤ 9223372036854775806) (w : World) (h : Row pg 5 w A xs) :
    Calls Tryd.prog 11 #[.slice A xs.length c] w fun e w' => e = .returned (.tuple #[.string (printBook xs).1, .bool (printBook xs).2]) ∧ Below w.heap.size w w' := by
  have H := Lib.hid h
  clear h
  by_cases h200 : 200 < xs.length
  · have hP := Lib.hid (show printBook xs = (em, false) from by unfold printBook; rw [if_pos h200])
    go_enter Tryd.func11, Tryd.ntmps11
    go_wp2
    go_ret2
    exact ⟨ret_pair hP.out.symm, Below.refl _ _⟩
  have hP := Lib.hid (show printBook xs = printL em 0 xs from by unfold printBook; rw [if_neg h200])
  go_enter Tryd.func11, Tryd.ntmps11
  go_wp2
  go_loopw [4, 5, 6] (fun a b x wr => ∃ (i : Nat) (out : ByteArray) (sum : Int), a = .string out ∧ b = .int .i64 sum ∧ x = .int .i64 i ∧ i ≤ xs.length ∧ out.size ≤ i * 200 ∧ (0 ≤ sum ∧ sum < 1000003) ∧ printBook xs = printL out sum (xs.drop i) ∧ Below w.heap.size w wr) (fun _ _ x _ => xs.length - (intOf x).toNat)
  case atStart => exact ⟨0, em, 0, rfl, rfl, rfl, Nat.zero_le _, Nat.le_refl _, by omega, hP.out, Below.refl _ _⟩
  case round =>
    clear hP
    obtain ⟨i, out, sum, rfl, rfl, rfl, hi, hsz, hs, hp, hb⟩ := hrel
    have HP := Lib.hid hp
    clear hp
    by_cases hlt : i < xs.length
    · obtain ⟨g, o, rfl, k1⟩ := (H.out.below hb).out i xs[i] (by simp [hlt])
      have HD := Lib.hid (show xs.drop i = xs[i] :: xs.drop (i + 1) from List.drop_eq_getElem_cons hlt)
      have HE := Lib.hid (spec_PageLine xs[i])
      have z1 := pageLine_size xs[i]
      have HQ : Hid (printBook xs = if pageLine xs[i] = em then (em, false) else printL (out ++ pageLine xs[i] ++ sp ++ num (sumOf (pageLine xs[i] ++ sp ++ num sum)) ++ nl) (sumOf (pageLine xs[i] ++ sp ++ num sum)) (xs.drop (i + 1))) := by
        rw [HP.out, HD.out]; rfl
      generalize xs[i] = p at *
      generalize pageLine p = l at *
      obtain ⟨a, b, c, d, e⟩ := p
      obtain ⟨a0, a1, a2, a3, a4⟩ := lies5 k1
      clear k1 HP HD
      by_cases hl : l = em
      · subst hl
        unfold em at *
        go_wp2_with (go_at_call 7; refine (HE.out _).mono ?_; rintro e w1 ⟨rfl, hb1⟩; replace hb := below_of_le hb hb1)
        go_ret2
        exact ⟨ret_pair (by rw [HQ.out, if_pos trivial]), hb⟩
      · have HQ2 := Lib.hid (HQ.out.trans (if_neg hl))
        have hl' := isEmpty_false hl
        have HS := Lib.hid (sum_I64 hs)
        have z2 := num_size HS.out
        have z0 : (⟨#[32]⟩ : ByteArray).size ≤ 1 := by decide
        have z3 : (⟨#[10]⟩ : ByteArray).size ≤ 1 := by decide
        obtain ⟨q1, t1⟩ := cat_ z1 z0 (by omega)
        obtain ⟨q2, t2⟩ := cat_ t1 z2 (by omega)
        have hr := sumOf_range (l ++ ⟨#[32]⟩ ++ num sum)
        have HR := Lib.hid hr
        have HS2 := Lib.hid (sum_I64 hr)
        have z4 := num_size HS2.out
        obtain ⟨q3, t3⟩ := cat_ hsz z1 (by omega)
        obtain ⟨q4, t4⟩ := cat_ t3 z0 (by omega)
        obtain ⟨q5, t5⟩ := cat_ t4 z4 (by omega)
        obtain ⟨q6, t6⟩ := cat_ t5 z3 (by omega)
        have T2 := Lib.hid (show (l ++ ⟨#[32]⟩ ++ num sum).size ≤ 9223372036854775806 from by omega)
        have T6 := Lib.hid (show (out ++ l ++ ⟨#[32]⟩ ++ num (sumOf (l ++ ⟨#[32]⟩ ++ num sum)) ++ ⟨#[10]⟩).size ≤ (i + 1) * 200 from by omega)
        clear z0 z1 z2 z3 z4 t1 t2 t3 t4 t5 t6 hr hl HQ hs
        go_wp2_with (first
          | (go_at_call 7; refine (HE.out _).mono ?_; rintro e w1 ⟨rfl, hb1⟩; replace hb := below_of_le hb hb1)
          | (go_at_call 23; refine (spec_l01Num _ (by first | exact HS.out | exact HS2.out) _).mono ?_; rintro e w2 ⟨rfl, hb2⟩; replace hb := below_of_le hb hb2)
          | (go_at_call 29; refine (spec_SumOf _ T2.out _).mono ?_; rintro e w3 ⟨rfl, hb3⟩; replace hb := below_of_le hb hb3))
        exact ⟨⟨i + 1, _, _, rfl, rfl, rfl, hlt, T6.out, HR.out, HQ2.out, hb⟩, by simp only [intOf]; omega⟩
    · obtain rfl : i = xs.length := by omega
      have HQ : Hid (printBook xs = (out, true)) := by rw [HP.out, List.drop_length]; rfl
      go_wp2
      go_ret2
      exact ⟨ret_pair HQ.out.symm, hb⟩
theorem tail_eq (out l n : ByteArray) : out ++ (l ++ ⟨#[32]⟩ ++ n ++ ⟨#[10]⟩) = out ++ l ++ ⟨#[32]⟩ ++ n ++ ⟨#[10]⟩ := by simp only [ByteArray.append_assoc]
set_option maxRecDepth 100000 in
theorem impl_PrintBook (A : Option Addr) (xs : List Page) (c : Nat) (hn : xs.length ≤ 9223372036854775806) (w : World) (he : Env w) (h : Row pg 5 w A xs) :
    Calls Tryd.prog 13 #[.slice A xs.length c] w fun e w' => e = .returned (.tuple #[.string (printBook xs).1, .bool (printBook xs).2]) ∧ Below w.heap.size w w' := by
  have H := Lib.hid h
  clear h
  by_cases h200 : 200 < xs.length
  · have hP := Lib.hid (show printBook xs = (em, false) from by unfold printBook; rw [if_pos h200])
    go_enter Tryd.func13, Tryd.ntmps13
    go_wp2
    go_ret2
    exact ⟨ret_pair hP.out.symm, Below.refl _ _⟩
  have hP := Lib.hid (show printBook xs = printL em 0 xs from by unfold printBook; rw [if_neg h200])
  go_enter Tryd.func13, Tryd.ntmps13
  go_wp2
  go_loopw [4, 5, 14] (fun a b x wr => ∃ (i : Nat) (out : ByteArray) (sum : Int), a = .string out ∧ b = .int .i64 sum ∧ x = .int .i64 i ∧ i ≤ xs.length ∧ out.size ≤ i * 200 ∧ (0 ≤ sum ∧ sum < 1000003) ∧ printBook xs = printL out sum (xs.drop i) ∧ Below w.heap.size w wr) (fun _ _ x _ => xs.length - (intOf x).toNat)
  case atStart => exact ⟨0, em, 0, rfl, rfl, rfl, Nat.zero_le _, Nat.le_refl _, by omega, hP.out, Below.refl _ _⟩
  case round =>
    clear hP
    obtain ⟨i, out, sum, rfl, rfl, rfl, hi, hsz, hs, hp, hb⟩ := hrel
    have HP := Lib.hid hp
    clear hp
    by_cases hlt : i < xs.length
    · obtain ⟨g, o, rfl, k1⟩ := (H.out.below hb).out i xs[i] (by simp [hlt])
      have HD := Lib.hid (show xs.drop i = xs[i] :: xs.drop (i + 1) from List.drop_eq_getElem_cons hlt)
      have HE := Lib.hid (impl_PageLine xs[i])
      have z1 := pageLine_size xs[i]
      have HQ : Hid (printBook xs = if pageLine xs[i] = em then (em, false) else printL (out ++ pageLine xs[i] ++ sp ++ num (sumOf (pageLine xs[i] ++ sp ++ num sum)) ++ nl) (sumOf (pageLine xs[i] ++ sp ++ num sum)) (xs.drop (i + 1))) := by
        rw [HP.out, HD.out]; rfl
      have hE := he.below hb he.size
      generalize xs[i] = p at *
      generalize pageLine p = l at *
      obtain ⟨a, b, c, d, e⟩ := p
      obtain ⟨a0, a1, a2, a3, a4⟩ := lies5 k1
      clear k1 HP HD
      by_cases hl : l = em
      · subst hl
        unfold em at *
        go_wp2_with (go_at_call 9; refine (HE.out _ (by first | exact hE.alloc _ | exact hE.drew.alloc _)).mono ?_; rintro e w1 ⟨rfl, hb1⟩; replace hb := below_of_le (hb.alloc hb.size _) hb1)
        go_ret2
        exact ⟨ret_pair (by rw [HQ.out, if_pos trivial]), hb⟩
      · have HQ2 := Lib.hid (HQ.out.trans (if_neg hl))
        have hl' := isEmpty_false hl
        have HS := Lib.hid (sum_I64 hs)
        have z2 := num_size HS.out
        have z0 : (⟨#[32]⟩ : ByteArray).size ≤ 1 := by decide
        have z3 : (⟨#[10]⟩ : ByteArray).size ≤ 1 := by decide
        obtain ⟨q1, t1⟩ := cat_ z1 z0 (by omega)
        obtain ⟨q2, t2⟩ := cat_ t1 z2 (by omega)
        have hr := sumOf_range (l ++ ⟨#[32]⟩ ++ num sum)
        have HR := Lib.hid hr
        have HS2 := Lib.hid (sum_I64 hr)
        have z4 := num_size HS2.out
        obtain ⟨q4, t4⟩ := cat_ t1 z4 (by omega)
        obtain ⟨q5, t5⟩ := cat_ t4 z3 (by omega)
        obtain ⟨q6, t6⟩ := cat_ hsz t5 (by omega)
        have HT := Lib.hid (tail_eq out l (num (sumOf (l ++ ⟨#[32]⟩ ++ num sum))))
        have T2 := Lib.hid (show (l ++ ⟨#[32]⟩ ++ num sum).size ≤ 9223372036854775806 from by omega)
        have T6 := Lib.hid (show (out ++ l ++ ⟨#[32]⟩ ++ num (sumOf (l ++ ⟨#[32]⟩ ++ num sum)) ++ ⟨#[10]⟩).size ≤ (i + 1) * 200 from by rw [← HT.out]; omega)
        clear z0 z1 z2 z3 z4 t1 t2 t4 t5 t6 hr hl HQ hs
        go_wp2_with (first
          | (go_at_call 9; refine (HE.out _ (by first | exact hE.alloc _ | exact hE.drew.alloc _)).mono ?_; rintro e w1 ⟨rfl, hb1⟩; replace hb := below_of_le (hb.alloc hb.size _) hb1)
          | (go_at_call 27; refine (impl_number _ (by first | exact HS.out | exact HS2.out) _ (he.below hb he.size)).mono ?_; rintro e w2 ⟨rfl, hb2⟩; replace hb := below_of_le hb hb2)
          | (go_at_call 30; refine (impl_SumOf _ T2.out _).mono ?_; rintro e w3 ⟨rfl, hb3⟩; replace hb := below_of_le hb hb3))
        exact ⟨⟨i + 1, _, _, congrArg Value.string HT.out, rfl, rfl, hlt, T6.out, HR.out, HQ2.out, hb⟩, by simp only [intOf]; omega⟩
    · obtain rfl : i = xs.length := by omega
      have HQ : Hid (printBook xs = (out, true)) := by rw [HP.out, List.drop_length]; rfl
      go_wp2
      go_ret2
      exact ⟨ret_pair HQ.out.symm, hb⟩
end Go.Proofs.YtcchjdmioeocdaaDoor
