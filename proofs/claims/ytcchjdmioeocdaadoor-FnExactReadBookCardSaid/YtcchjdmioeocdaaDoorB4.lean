/- Sums of texts; lists of pages in the law: measured, made, compared. No condition. -/
import Derived.Test.YtcchjdmioeocdaaDoorB3
import Derived.Test.YtcchjdmioeocdaaDoorR1
namespace Go.Proofs.YtcchjdmioeocdaaDoor
open Go.RowKit
def sumL (a : Int) (l : List UInt8) : Int := l.foldl (fun a b => (131 * a + (b.toNat : Int)) % 1000003) a
def sumOf (s : ByteArray) : Int := sumL 7 s.data.toList
theorem sumL_range : ∀ (l : List UInt8) (a : Int), 0 ≤ a → a < 1000003 → 0 ≤ sumL a l ∧ sumL a l < 1000003
  | [], a, h0, h1 => ⟨h0, h1⟩
  | b :: l, a, h0, h1 => sumL_range l ((131 * a + (b.toNat : Int)) % 1000003) (by omega) (by omega)
theorem sumOf_range (s : ByteArray) : 0 ≤ sumOf s ∧ sumOf s < 1000003 := sumL_range _ _ (by omega) (by omega)
theorem sumL_take (s : ByteArray) (i : Nat) (h : i < s.size) : sumL 7 (s.data.toList.take (i + 1)) = (131 * sumL 7 (s.data.toList.take i) + ((s[i]'h).toNat : Int)) % 1000003 := by
  have h' : i < s.data.toList.length := by rw [Array.length_toList]; exact h
  rw [List.take_succ_eq_append_getElem h', sumL, List.foldl_append]
  rfl
theorem byte_range (s : ByteArray) (i : Nat) (h : i < s.size) : (0 : Int) ≤ ((s[i]'h).toNat : Int) ∧ ((s[i]'h).toNat : Int) ≤ 255 := by
  have := (s[i]'h).toNat_lt
  omega
set_option maxRecDepth 100000 in
theorem spec_SumOf (s : ByteArray) (hs : s.size ≤ 9223372036854775806) (w : World) : Calls Tryd.prog 29 #[.string s] w fun e w' => e = .returned (.int .i64 (sumOf s)) ∧ Below w.heap.size w w' := by
  go_enter Tryd.func29, Tryd.ntmps29
  go_wp2
  go_loopw [3, 4] (fun a x wr => ∃ i : Nat, a = .int .i64 (sumL 7 (s.data.toList.take i)) ∧ x = .int .i64 i ∧ i ≤ s.size ∧ Below w.heap.size w wr) (fun _ x _ => s.size - (intOf x).toNat)
  case atStart => exact ⟨0, rfl, rfl, Nat.zero_le _, Below.refl _ _⟩
  case round =>
    obtain ⟨i, rfl, rfl, hi, hb⟩ := hrel
    by_cases hlt : i < s.size
    · have H := Lib.hid (sumL_take s i hlt)
      obtain ⟨r0, r1⟩ := sumL_range (s.data.toList.take i) 7 (by omega) (by omega)
      obtain ⟨r2, r3⟩ := byte_range s i hlt
      go_wp2
      exact ⟨⟨i + 1, congrArg (Value.int .i64) H.out.symm, rfl, hlt, hb⟩, by simp only [intOf]; omega⟩
    · obtain rfl : i = s.size := by omega
      have H : Hid (sumL 7 (s.data.toList.take s.size) = sumOf s) := by rw [List.take_of_length_le (by rw [Array.length_toList]; exact Nat.le_refl _)]; rfl
      go_wp2
      go_ret
      exact ⟨ret_int H.out, hb⟩
set_option maxRecDepth 100000 in
theorem impl_SumOf (s : ByteArray) (hs : s.size ≤ 9223372036854775806) (w : World) : Calls Tryd.prog 30 #[.string s] w fun e w' => e = .returned (.int .i64 (sumOf s)) ∧ Below w.heap.size w w' := by
  go_enter Tryd.func30, Tryd.ntmps30
  go_wp2
  go_loopw [3, 7] (fun a x wr => ∃ i : Nat, a = .int .i64 (sumL 7 (s.data.toList.take i)) ∧ x = .int .i64 i ∧ i ≤ s.size ∧ Below w.heap.size w wr) (fun _ x _ => s.size - (intOf x).toNat)
  case atStart => exact ⟨0, rfl, rfl, Nat.zero_le _, Below.refl _ _⟩
  case round =>
    obtain ⟨i, rfl, rfl, hi, hb⟩ := hrel
    by_cases hlt : i < s.size
    · have H := Lib.hid (sumL_take s i hlt)
      obtain ⟨r0, r1⟩ := sumL_range (s.data.toList.take i) 7 (by omega) (by omega)
      obtain ⟨r2, r3⟩ := byte_range s i hlt
      go_wp2
      exact ⟨⟨i + 1, congrArg (Value.int .i64) H.out.symm, rfl, hlt, hb⟩, by simp only [intOf]; omega⟩
    · obtain rfl : i = s.size := by omega
      have H : Hid (sumL 7 (s.data.toList.take s.size) = sumOf s) := by rw [List.take_of_length_le (by rw [Array.length_toList]; exact Nat.le_refl _)]; rfl
      go_wp2
      go_ret
      exact ⟨ret_int H.out, hb⟩
def pg (p : Page) : List Value := [.int .i64 p.at_, .int .i64 p.count, .int .i64 p.law, .int .i64 p.next, .int .i64 p.cond]
theorem pg_len (p : Page) : (pg p).length = 5 := rfl
theorem pg_one (p : Page) : ∀ u ∈ pg p, u.oneCell' = true := by
  intro u hu
  simp only [pg, List.mem_cons, List.not_mem_nil, or_false] at hu
  rcases hu with rfl | rfl | rfl | rfl | rfl <;> rfl
theorem toPage_pg (p : Page) (w : World) : Calls Tryd.prog 8 #[.agg (pg p).toArray] w fun e w' => e = .returned (.agg (pg p).toArray) ∧ Below w.heap.size w w' := laws_toPage p w
theorem laws_szPageS (A : Option Addr) (n c : Nat) (left : Int) (hn : n ≤ 9223372036854775807) (h0 : 0 ≤ left) (h1 : left ≤ 1048576) (w : World) : Calls Tryd.prog 10 #[.slice A n c, .int .i64 left] w fun e w' => e = .returned (.int .i64 (if left < n then -1 else left - n)) ∧ w = w' := by
  go_enter Tryd.func10, Tryd.ntmps10
  go_wp2
  all_goals (go_ret; exact ⟨ret_int (by first | rfl | (split <;> omega)), rfl⟩)
set_option maxRecDepth 100000 in
theorem laws_toPageS (A : Option Addr) (xs : List Page) (c : Nat) (hn : xs.length ≤ 1048576) (w : World) (h : Row pg 5 w A xs) : Calls Tryd.prog 12 #[.slice A xs.length c] w fun e w' => ∃ v, e = .returned v ∧ Own 25 pg 5 w.heap.size w' v xs ∧ Below w.heap.size w w' := by
  have hmk := make_run (P := Tryd.prog) 32 25 (.agg #[.int .i64 0, .int .i64 0, .int .i64 0, .int .i64 0, .int .i64 0]) 5 40 Tryd.underlying32 (by kernel_rfl) xs.length (by omega) (by simp only [maxLen]; omega)
  go_enter Tryd.func12, Tryd.ntmps12
  go_wp2
  have hz : Own 25 pg 5 w.heap.size (w.alloc (.cells (madeCells #[Value.int .i64 0, Value.int .i64 0, Value.int .i64 0, Value.int .i64 0, Value.int .i64 0] (xs.length * 5)) 25)) (.slice (some ⟨w.heap.size, 0, none⟩) xs.length xs.length) (List.replicate xs.length ⟨0, 0, 0, 0, 0⟩) :=
    Own.made (f := pg) (.agg #[.int .i64 0, .int .i64 0, .int .i64 0, .int .i64 0, .int .i64 0]) ⟨0, 0, 0, 0, 0⟩ xs.length rfl rfl (by decide) (Nat.le_refl _) (by simp only [maxLen]; omega)
  go_loopw [4] (fun a wr => ∃ i : Nat, a = .int .i64 i ∧ i ≤ xs.length ∧ Own 25 pg 5 w.heap.size wr (.slice (some ⟨w.heap.size, 0, none⟩) xs.length xs.length) (xs.take i ++ List.replicate (xs.length - i) ⟨0, 0, 0, 0, 0⟩) ∧ Below w.heap.size w wr) (fun x _ => xs.length - (intOf x).toNat)
  case atStart => exact ⟨0, rfl, Nat.zero_le _, hz, (Below.refl _ _).alloc (Nat.le_refl _) _⟩
  case round =>
    clear hz hmk
    obtain ⟨i, rfl, hi, ho, hb⟩ := hrel
    by_cases hlt : i < xs.length
    · have HT := Lib.hid (toPage_pg xs[i])
      have hx : xs[i]? = some xs[i] := by simp [hlt]
      obtain ⟨g, o, rfl, hc⟩ := (h.below hb).out i xs[i] hx
      generalize xs[i] = p at *
      have hp := pg_len p
      obtain ⟨p0, p1, p2, p3, p4⟩ := p
      obtain ⟨c0, c1, c2, c3, c4⟩ := lies5 hc
      clear hc
      have HO := Lib.hid ho
      have HX := Lib.hid hx
      have HH := Lib.hid h
      clear ho h hx
      go_wp2_with (go_at_call 8; refine (HT.out _).mono ?_; rintro e w1 ⟨rfl, hb1⟩; obtain ⟨hst, ho⟩ := store_run (P := Tryd.prog) pg_len (HO.out.below hb1) i (by simp; omega) ⟨p0, p1, p2, p3, p4⟩ (by decide) (pg_one _); replace ho := Lib.hid ho; rw [Nat.zero_add] at hst)
      refine ⟨⟨i + 1, rfl, hlt, ?_, setCells_below (below_of_le hb hb1) _ _ (Nat.le_refl _)⟩, by simp only [intOf]; omega⟩
      rw [← fill_set _ _ _ _ HX.out]
      have := ho.out
      rwa [Nat.zero_add] at this
    · obtain rfl : i = xs.length := by omega
      rw [List.take_length, Nat.sub_self, List.replicate_zero, List.append_nil] at ho
      go_wp2
      go_ret
      exact ⟨_, rfl, ho, hb⟩
set_option maxRecDepth 100000 in
theorem laws_eqPage (p : Page) (w : World) : Calls Tryd.prog 17 #[.agg (pg p).toArray, .agg (pg p).toArray] w fun e w' => e = .returned (.bool true) ∧ Below w.heap.size w w' := by
  obtain ⟨a, b, c, d, e⟩ := p
  unfold pg
  go_enter Tryd.func17, Tryd.ntmps17
  go_wp2
  go_ret
  exact ⟨rfl, by first | exact Below.refl _ _ | exact (Below.refl _ _).alloc (Nat.le_refl _) _ | exact ((Below.refl _ _).alloc (Nat.le_refl _) _).alloc (by simp) _⟩
set_option maxRecDepth 100000 in
theorem laws_eqPageS (A1 A2 : Option Addr) (xs : List Page) (c1 c2 : Nat) (hn : xs.length ≤ 9223372036854775806) (w : World) (h1 : Row pg 5 w A1 xs) (h2 : Row pg 5 w A2 xs) :
    Calls Tryd.prog 14 #[.slice A1 xs.length c1, .slice A2 xs.length c2] w fun e w' => e = .returned (.bool true) ∧ Below w.heap.size w w' := by
  have H1 := Lib.hid h1
  have H2 := Lib.hid h2
  clear h1 h2
  go_enter Tryd.func14, Tryd.ntmps14
  go_wp2
  go_loopw [5] (fun x wr => ∃ i : Nat, x = .int .i64 i ∧ i ≤ xs.length ∧ Below w.heap.size w wr) (fun x _ => xs.length - (intOf x).toNat)
  case atStart => exact ⟨0, rfl, Nat.zero_le _, Below.refl _ _⟩
  case round =>
    obtain ⟨i, rfl, hi, hb⟩ := hrel
    by_cases hlt : i < xs.length
    · obtain ⟨g1, o1, rfl, k1⟩ := (H1.out.below hb).out i xs[i] (by simp [hlt])
      obtain ⟨g2, o2, rfl, k2⟩ := (H2.out.below hb).out i xs[i] (by simp [hlt])
      have HE := Lib.hid (laws_eqPage xs[i])
      generalize xs[i] = p at *
      obtain ⟨a, b, c, d, e⟩ := p
      obtain ⟨a0, a1, a2, a3, a4⟩ := lies5 k1
      obtain ⟨b0, b1, b2, b3, b4⟩ := lies5 k2
      clear k1 k2
      have hI : (i : Int) < xs.length := by omega
      go_wp2
      go_region_held3 (fun w' => w'.cell? ⟨g1, o1 + i * 5, none⟩ = some (.int .i64 a) ∧ w'.cell? ⟨g1, o1 + i * 5 + 1, none⟩ = some (.int .i64 b) ∧ w'.cell? ⟨g1, o1 + i * 5 + 2, none⟩ = some (.int .i64 c) ∧ w'.cell? ⟨g1, o1 + i * 5 + 3, none⟩ = some (.int .i64 d) ∧ w'.cell? ⟨g1, o1 + i * 5 + 4, none⟩ = some (.int .i64 e) ∧ w'.cell? ⟨g2, o2 + i * 5, none⟩ = some (.int .i64 a) ∧ w'.cell? ⟨g2, o2 + i * 5 + 1, none⟩ = some (.int .i64 b) ∧ w'.cell? ⟨g2, o2 + i * 5 + 2, none⟩ = some (.int .i64 c) ∧ w'.cell? ⟨g2, o2 + i * 5 + 3, none⟩ = some (.int .i64 d) ∧ w'.cell? ⟨g2, o2 + i * 5 + 4, none⟩ = some (.int .i64 e))
        (first | go_keep | exact (And.imp (keep_cell hb2) (And.imp (keep_cell hb2) (And.imp (keep_cell hb2) (And.imp (keep_cell hb2) (And.imp (keep_cell hb2) (And.imp (keep_cell hb2) (And.imp (keep_cell hb2) (And.imp (keep_cell hb2) (And.imp (keep_cell hb2) (keep_cell hb2)))))))))) (by assumption))
        ((go_at_call 17; refine (HE.out _).mono ?_; rintro e w2 ⟨rfl, hb2⟩; replace hb := below_of_le hb.drew hb2))
      go_wp2
      exact ⟨⟨i + 1, rfl, hlt, hb⟩, by simp only [intOf]; omega⟩
    · obtain rfl : i = xs.length := by omega
      go_wp2
      go_ret
      exact ⟨rfl, hb⟩
end Go.Proofs.YtcchjdmioeocdaaDoor
