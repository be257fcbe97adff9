/- Numbers: bounds, and how they are written (l01Num, number). No condition. -/
import Derived.Test.YtcchjdmioeocdaaDoorB0
namespace Go.Proofs.YtcchjdmioeocdaaDoor
open Go.RowKit
def inB (x lo hi : Int) : Bool := decide (lo ≤ x) && decide (x ≤ hi)
theorem spec_l01In (x lo hi : Int) (w : World) : Calls Tryd.prog 41 #[.int .i64 x, .int .i64 lo, .int .i64 hi] w fun e w' => e = .returned (.bool (inB x lo hi)) ∧ w = w' := by
  go_enter Tryd.func41, Tryd.ntmps41
  go_wp2
  all_goals (go_ret; exact ⟨ret_bool (by unfold inB; simp [*] <;> omega), rfl⟩)
theorem impl_in (x lo hi : Int) (w : World) : Calls Tryd.prog 44 #[.int .i64 x, .int .i64 lo, .int .i64 hi] w fun e w' => e = .returned (.bool (inB x lo hi)) ∧ w = w' := by
  go_enter Tryd.func44, Tryd.ntmps44
  go_wp2
  all_goals (go_ret; exact ⟨ret_bool (by unfold inB; simp [*] <;> omega), rfl⟩)
theorem spec_l02Tick (x : Int) (w : World) : Calls Tryd.prog 39 #[.int .i64 x] w fun e w' => e = .returned (.bool (inB x 0 1000000000)) ∧ w = w' := by
  go_enter Tryd.func39, Tryd.ntmps39
  go_wp2_with (go_at_call 41; refine (spec_l01In _ _ _ _).mono ?_; rintro e w' ⟨rfl, rfl⟩)
  go_ret; exact ⟨rfl, rfl⟩
theorem spec_l05Count (x : Int) (w : World) : Calls Tryd.prog 40 #[.int .i64 x] w fun e w' => e = .returned (.bool (inB x 0 1000)) ∧ w = w' := by
  go_enter Tryd.func40, Tryd.ntmps40
  go_wp2_with (go_at_call 41; refine (spec_l01In _ _ _ _).mono ?_; rintro e w' ⟨rfl, rfl⟩)
  go_ret; exact ⟨rfl, rfl⟩
theorem impl_isTick (x : Int) (w : World) : Calls Tryd.prog 42 #[.int .i64 x] w fun e w' => e = .returned (.bool (inB x 0 1000000000)) ∧ w = w' := by
  go_enter Tryd.func42, Tryd.ntmps42
  go_wp2_with (go_at_call 44; refine (impl_in _ _ _ _).mono ?_; rintro e w' ⟨rfl, rfl⟩)
  go_ret; exact ⟨rfl, rfl⟩
theorem impl_isCount (x : Int) (w : World) : Calls Tryd.prog 43 #[.int .i64 x] w fun e w' => e = .returned (.bool (inB x 0 1000)) ∧ w = w' := by
  go_enter Tryd.func43, Tryd.ntmps43
  go_wp2_with (go_at_call 44; refine (impl_in _ _ _ _).mono ?_; rintro e w' ⟨rfl, rfl⟩)
  go_ret; exact ⟨rfl, rfl⟩
theorem impl_number (n : Int) (hn : I64 n) (w : World) (he : Env w) : Calls Tryd.prog 27 #[.int .i64 n] w fun e w' => e = .returned (.string (num n)) ∧ Below w.heap.size w w' := by
  go_enter Tryd.func27, Tryd.ntmps27
  go_wp2_with (go_at_call 46; refine (Tryd.strconv_Itoa _ hn.1 hn.2 _ he.pow).mono ?_; rintro e w' ⟨rfl, k, os, rfl⟩)
  go_ret
  exact ⟨rfl, below_grow (below_drewN (Below.refl _ _) _) (Nat.le_refl _) _⟩
def tailD (u : Nat) (l : List UInt8) : List UInt8 := if u = 0 then l else Lib.decDigits u ++ l
theorem tailD_step (u : Nat) (l : List UInt8) (h : u ≠ 0) : tailD (u / 10) (UInt8.ofNat (48 + u % 10) :: l) = tailD u l := by
  unfold tailD
  rw [if_neg h]
  by_cases h1 : u < 10
  · have h2 : u / 10 = 0 := by omega
    have h3 : u % 10 = u := by omega
    rw [if_pos h2, Lib.decDigits, dif_pos h1, h3]; rfl
  · have h2 : ¬ u / 10 = 0 := by omega
    conv => rhs; rw [Lib.decDigits, dif_neg h1]
    rw [if_neg h2]; simp
theorem len_digits (u : Nat) (k : Nat) (h : u < 10 ^ (k + 1)) : (Lib.decDigits u).length ≤ k + 1 := by
  induction k generalizing u with
  | zero => rw [Lib.decDigits, dif_pos (by simpa using h)]; simp
  | succ k ih =>
    rw [Lib.decDigits]
    by_cases h1 : u < 10
    · rw [dif_pos h1]; simp
    · rw [dif_neg h1]
      have := ih (u / 10) (by rw [Nat.pow_succ] at h; omega)
      simp; omega
theorem len_digits20 (u : Nat) (h : u ≤ 9223372036854775808) : (Lib.decDigits u).length ≤ 20 := len_digits u 19 (by omega)
theorem conv1 (W : World) (n : Int) : (convert 59 9 (.slice (some ⟨W.heap.size, 0, none⟩) 1 1)).run Tryd.prog (W.alloc (.cells #[.int .u8 n] 5)) = .ok (.string (strOfNums [n])) (W.alloc (.cells #[.int .u8 n] 5)) :=
  run_convert_bytes_arg _ 59 5 Tryd.underlying59 Tryd.underlying5 _ 0 1 1 [n] rfl (fun i hi => by
    obtain rfl : i = 0 := by omega
    simp) _ Tryd.underlying9
theorem digit_str (m : Nat) (l : List UInt8) (z : Int) (hz : z = 48 + ((m % 10 : Nat) : Int)) : strOfNums [z] ++ (⟨l.toArray⟩ : ByteArray) = ⟨(UInt8.ofNat (48 + m % 10) :: l).toArray⟩ := by
  subst hz
  have e : ((48 : Int) + ((m % 10 : Nat) : Int)).toNat = 48 + m % 10 := by omega
  unfold strOfNums
  apply ByteArray.ext
  simp only [List.map_cons, List.map_nil, e]
  simp
theorem tailD_len {u v : Nat} {l : List UInt8} (h : tailD u l = Lib.decDigits v) (hv : v ≤ 9223372036854775808) : l.length ≤ 20 := by
  have h1 := len_digits20 v hv
  rw [← h] at h1
  unfold tailD at h1
  split at h1
  · exact h1
  · simp at h1; omega
theorem minus_str (l : List UInt8) : (⟨#[45]⟩ : ByteArray) ++ (⟨l.toArray⟩ : ByteArray) = ⟨(45 :: l).toArray⟩ := by
  apply ByteArray.ext
  simp
set_option maxRecDepth 100000 in
theorem spec_l01Num (n : Int) (hn : I64 n) (w : World) : Calls Tryd.prog 23 #[.int .i64 n] w fun e w' => e = .returned (.string (num n)) ∧ Below w.heap.size w w' := by
  by_cases h0 : n = 0
  · subst h0
    go_enter Tryd.func23, Tryd.ntmps23
    go_wp2
    go_ret
    exact ⟨ret_str (by unfold num Lib.itoa; rw [if_neg (by omega), Lib.decDigits, dif_pos (by decide)]; rfl), Below.refl _ _⟩
  · obtain ⟨hn1, hn2⟩ := hn
    go_enter Tryd.func23, Tryd.ntmps23
    go_wp2
    go_loopw [0, 3] (fun x out wr => ∃ (q : Int) (l : List UInt8), x = .int .i64 q ∧ out = .string ⟨l.toArray⟩ ∧ -9223372036854775808 ≤ q ∧ q ≤ 9223372036854775807 ∧ tailD q.natAbs l = Lib.decDigits n.natAbs ∧ Below w.heap.size w wr) (fun x _ _ => (intOf x).natAbs)
    case atStart => exact ⟨n, [], rfl, rfl, hn1, hn2, by unfold tailD; rw [if_neg (by omega)]; simp, Below.refl _ _⟩
    case round =>
      obtain ⟨q, l, rfl, rfl, hq1, hq2, hl, hb⟩ := hrel
      have hll := tailD_len hl (by omega)
      have Hl := Lib.hid hl
      clear hl
      by_cases hq : q = 0
      · subst hq
        have Hf : tailD 0 l = l := by unfold tailD; rw [if_pos rfl]
        have HF := Lib.hid Hf
        clear Hf
        by_cases hneg : n < 0
        · go_wp2
          go_ret
          refine ⟨ret_str ?_, hb⟩
          rw [minus_str]
          unfold num Lib.itoa
          rw [if_pos hneg, ← Hl.out]
          exact congrArg (fun x => (⟨(45 :: x).toArray⟩ : ByteArray)) HF.out.symm
        · go_wp2
          go_ret
          refine ⟨ret_str ?_, hb⟩
          unfold num Lib.itoa
          rw [if_neg (by omega), show n.toNat = n.natAbs by omega, ← Hl.out]
          exact congrArg (fun x => (⟨x.toArray⟩ : ByteArray)) HF.out.symm
      · have hs := tailD_step q.natAbs l (by omega)
        have Hs := Lib.hid (hs.trans Hl.out)
        have Ht := Lib.hid (show (q.tdiv 10).natAbs = q.natAbs / 10 from Int.natAbs_tdiv q 10)
        have hc1 := conv1
        have Hm := Lib.hid (show (q.tmod 10) = if q < 0 then -((q.natAbs % 10 : Nat) : Int) else ((q.natAbs % 10 : Nat) : Int) by
          rcases Int.le_total 0 q with h | h
          · rw [if_neg (by omega), Int.tmod_eq_emod_of_nonneg h]; omega
          · obtain ⟨m, rfl⟩ : ∃ m : Nat, q = -(m : Int) := ⟨q.natAbs, by omega⟩
            rw [if_pos (by omega), Int.neg_tmod, Int.tmod_eq_emod_of_nonneg (by omega)]; omega)
        have hd1 : -9 ≤ q.tmod 10 ∧ q.tmod 10 ≤ 9 := by rw [Hm.out]; split <;> omega
        obtain ⟨hd1, hd2⟩ := hd1
        have hsz : ∀ z : Int, (strOfNums [z]).size = 1 := fun z => by simp [strOfNums, ByteArray.size]
        have Hq : Hid (-9223372036854775808 ≤ q.tdiv 10 ∧ q.tdiv 10 ≤ 9223372036854775807) := by
          have := Ht.out
          constructor <;> omega
        clear hs
        go_wp2
        all_goals
          go_roundw
          case measure => simp only [intOf]; have := Ht.out; simp only [bne_iff_ne, ne_eq] at *; first | (show (q.tdiv 10).natAbs < q.natAbs; omega) | (simp; omega)
          case rel => exact ⟨q.tdiv 10, UInt8.ofNat (48 + q.natAbs % 10) :: l, by first | rfl | go_num, congrArg Value.string (digit_str _ _ _ (by have := Hm.out; split at this <;> omega)), Hq.1, Hq.2, by rw [Ht.out]; exact Hs.out, hb.alloc hb.size _⟩
end Go.Proofs.YtcchjdmioeocdaaDoor
