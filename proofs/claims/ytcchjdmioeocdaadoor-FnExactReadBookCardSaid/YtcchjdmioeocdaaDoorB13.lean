/- Marks put into a list of pages, and found again, by the law. No condition. -/
import Derived.Test.YtcchjdmioeocdaaDoorB4
import Derived.Test.YtcchjdmioeocdaaDoorR3
namespace Go.Proofs.YtcchjdmioeocdaaDoor
open Go.RowKit
/-- Nothing has turned but block g. -/
structure Only (g : Option Nat) (w w' : World) : Prop where
  os : w'.os = w.os
  tape : w'.tape = w.tape
  output : w'.output = w.output
  size : w.heap.size ≤ w'.heap.size
  block : ∀ k, k < w.heap.size → g ≠ some k → w'.heap[k]? = w.heap[k]?
theorem Only.refl (g : Option Nat) (w : World) : Only g w w := ⟨rfl, rfl, rfl, Nat.le_refl _, fun _ _ _ => rfl⟩
theorem Only.below {g : Option Nat} {B : Nat} {w0 w w' : World} (h : Only g w w') (hb : Below B w0 w) (hB : B ≤ w.heap.size) (hg : ∀ k, g = some k → B ≤ k) : Below B w0 w' :=
  hb.trans ⟨h.os, h.tape, h.output, h.size, fun k hk => h.block k (by omega) (fun e => by have := hg k e; omega)⟩
theorem Only.sets {g : Nat} {w w' : World} (h : Only (some g) w w') (o : Nat) (vs : List Value) : Only (some g) w (w'.setCells g o vs) := by
  obtain ⟨s1, s2, s3, s4⟩ := setCells_same g vs o w'
  exact ⟨s1.trans h.os, s2.trans h.tape, s3.trans h.output, by rw [s4]; exact h.size, fun k hk hne => (setCells_far vs o k (fun e => hne (by rw [e]))).trans (h.block k hk hne)⟩
def mark (k : Int) : Page := ⟨k, k + 1, k + 1 + 1, k + 1 + 1 + 1, k + 1 + 1 + 1 + 1⟩
def marks (k : Int) (n : Nat) : List Page := (List.range n).map fun (i : Nat) => mark (k + 5 * (i : Int))
theorem marks_len (k : Int) (n : Nat) : (marks k n).length = n := by simp [marks]
theorem marks_at (k : Int) (n i : Nat) (h : i < n) : (marks k n)[i]? = some (mark (k + 5 * (i : Int))) := by simp [marks, h]
theorem marks_set (k : Int) (xs : List Page) (i : Nat) (h : i < xs.length) : (marks k i ++ xs.drop i).set i (mark (k + 5 * (i : Int))) = marks k (i + 1) ++ xs.drop (i + 1) := by
  rw [List.set_append_right _ _ (by rw [marks_len]; exact Nat.le_refl _), marks_len, Nat.sub_self, List.drop_eq_getElem_cons h, List.set_cons_zero]
  simp [marks, List.range_succ]
set_option maxHeartbeats 1000000 in
set_option maxRecDepth 100000 in
theorem laws_markPageS (B : Nat) (v : Value) (xs : List Page) (k : Int) (w : World) (h0 : 0 ≤ k) (hk : k + 5 * (xs.length : Int) ≤ 1000000000000) (h : Own 25 pg 5 B w v xs) :
    Calls Tryd.prog 20 #[v, .int .i64 k] w fun e w' => e = .returned (.int .i64 (k + 5 * (xs.length : Int))) ∧ Own 25 pg 5 B w' v (marks k xs.length) ∧ Only (foot v) w w' := by
  obtain ⟨A, c, rfl, hc, hm, -⟩ := h.open pg_len
  have H := Lib.hid h
  clear h
  go_enter Tryd.func20, Tryd.ntmps20
  go_wp2
  go_loopw [1, 5] (fun a x wr => ∃ i : Nat, a = .int .i64 (k + 5 * (i : Int)) ∧ x = .int .i64 i ∧ i ≤ xs.length ∧ Own 25 pg 5 B wr (.slice A xs.length c) (marks k i ++ xs.drop i) ∧ Only (foot (.slice A xs.length c)) w wr) (fun _ x _ => xs.length - (intOf x).toNat)
  case atStart => exact ⟨0, by simp, rfl, Nat.zero_le _, by simpa [marks] using H.out, Only.refl _ _⟩
  case round =>
    obtain ⟨i, rfl, rfl, hi, ho, hx⟩ := hrel
    by_cases hlt : i < xs.length
    · have hl : i < (marks k i ++ xs.drop i).length := by rw [List.length_append, marks_len, List.length_drop]; omega
      have hms := marks_set k xs i hlt
      generalize hys : marks k i ++ xs.drop i = ys at *
      obtain ⟨x, hxi⟩ : ∃ x, ys[i]? = some x := ⟨_, List.getElem?_eq_getElem hl⟩
      obtain ⟨g, o, hA, hft, -⟩ := ho.put pg_len i x x 0 (pg x) hxi (by rw [pg_len]; decide) (by rw [pg_len]; decide) (by rw [List.take_zero, List.nil_append, Nat.zero_add, pg_len, List.drop_of_length_le (by rw [pg_len]; exact Nat.le_refl _), List.append_nil])
      subst hA
      obtain ⟨a, b, c', d, e⟩ := x
      obtain ⟨cu0, hh0, hf0, -, -, hp0⟩ := ho.slot pg_len i ⟨a, b, c', d, e⟩ hxi 0 (by decide)
      rw [hft] at hx
      replace hx := Lib.hid hx
      have HS := Lib.hid hms
      have HT := Lib.hid hft
      have one1 : ∀ z : Int, ∀ q ∈ [Value.int .i64 z], q.oneCell' = true := fun z q hq => by rw [List.mem_singleton] at hq; rw [hq]; rfl
      clear hms hft hxi hys
      go_wp2_with (first
        | (refine gate_store rfl ?_; refine wp_store (g := g) (b := o + i * 5) rfl rfl _ _ _ rfl (.int .i64 (k + 5 * (i : Int))) [.int .i64 (k + 5 * (i : Int))] rfl rfl hh0 rfl (by kernel_rfl) hf0 (one1 _) ?_; intro w0 hw; have ho := Lib.hid (show Own 25 pg 5 B w0 _ _ from hw ▸ hp0 (.int .i64 (k + 5 * (i : Int))) ⟨(k + 5 * (i : Int)), b, c', d, e⟩ rfl); replace hx := Lib.hid (show Only _ w w0 from hw ▸ hx.out.sets _ _); clear hw hp0; obtain ⟨cu1, hh1, hf1, -, -, hp1⟩ := ho.out.slot pg_len i ⟨(k + 5 * (i : Int)), b, c', d, e⟩ (by rw [List.getElem?_set_self (by simpa using hl)]) 1 (by decide))
        | (refine gate_store rfl ?_; refine wp_store (g := g) (b := o + i * 5 + 1) rfl rfl _ _ _ rfl (.int .i64 (k + 5 * (i : Int) + 1)) [.int .i64 (k + 5 * (i : Int) + 1)] rfl rfl hh1 rfl (by kernel_rfl) hf1 (one1 _) ?_; intro w1 hw; have ho := Lib.hid (show Own 25 pg 5 B w1 _ _ from hw ▸ hp1 (.int .i64 (k + 5 * (i : Int) + 1)) ⟨(k + 5 * (i : Int)), (k + 5 * (i : Int) + 1), c', d, e⟩ rfl); replace hx := Lib.hid (show Only _ w w1 from hw ▸ hx.out.sets _ _); clear hw hp1; obtain ⟨cu2, hh2, hf2, -, -, hp2⟩ := ho.out.slot pg_len i ⟨(k + 5 * (i : Int)), (k + 5 * (i : Int) + 1), c', d, e⟩ (by rw [List.getElem?_set_self (by simpa using hl)]) 2 (by decide))
        | (refine gate_store rfl ?_; refine wp_store (g := g) (b := o + i * 5 + 2) rfl rfl _ _ _ rfl (.int .i64 (k + 5 * (i : Int) + 1 + 1)) [.int .i64 (k + 5 * (i : Int) + 1 + 1)] rfl rfl hh2 rfl (by kernel_rfl) hf2 (one1 _) ?_; intro w2 hw; have ho := Lib.hid (show Own 25 pg 5 B w2 _ _ from hw ▸ hp2 (.int .i64 (k + 5 * (i : Int) + 1 + 1)) ⟨(k + 5 * (i : Int)), (k + 5 * (i : Int) + 1), (k + 5 * (i : Int) + 1 + 1), d, e⟩ rfl); replace hx := Lib.hid (show Only _ w w2 from hw ▸ hx.out.sets _ _); clear hw hp2; obtain ⟨cu3, hh3, hf3, -, -, hp3⟩ := ho.out.slot pg_len i ⟨(k + 5 * (i : Int)), (k + 5 * (i : Int) + 1), (k + 5 * (i : Int) + 1 + 1), d, e⟩ (by rw [List.getElem?_set_self (by simpa using hl)]) 3 (by decide))
        | (refine gate_store rfl ?_; refine wp_store (g := g) (b := o + i * 5 + 3) rfl rfl _ _ _ rfl (.int .i64 (k + 5 * (i : Int) + 1 + 1 + 1)) [.int .i64 (k + 5 * (i : Int) + 1 + 1 + 1)] rfl rfl hh3 rfl (by kernel_rfl) hf3 (one1 _) ?_; intro w3 hw; have ho := Lib.hid (show Own 25 pg 5 B w3 _ _ from hw ▸ hp3 (.int .i64 (k + 5 * (i : Int) + 1 + 1 + 1)) ⟨(k + 5 * (i : Int)), (k + 5 * (i : Int) + 1), (k + 5 * (i : Int) + 1 + 1), (k + 5 * (i : Int) + 1 + 1 + 1), e⟩ rfl); replace hx := Lib.hid (show Only _ w w3 from hw ▸ hx.out.sets _ _); clear hw hp3; obtain ⟨cu4, hh4, hf4, -, -, hp4⟩ := ho.out.slot pg_len i ⟨(k + 5 * (i : Int)), (k + 5 * (i : Int) + 1), (k + 5 * (i : Int) + 1 + 1), (k + 5 * (i : Int) + 1 + 1 + 1), e⟩ (by rw [List.getElem?_set_self (by simpa using hl)]) 4 (by decide))
        | (refine gate_store rfl ?_; refine wp_store (g := g) (b := o + i * 5 + 4) rfl rfl _ _ _ rfl (.int .i64 (k + 5 * (i : Int) + 1 + 1 + 1 + 1)) [.int .i64 (k + 5 * (i : Int) + 1 + 1 + 1 + 1)] rfl rfl hh4 rfl (by kernel_rfl) hf4 (one1 _) ?_; intro w4 hw; have ho := Lib.hid (show Own 25 pg 5 B w4 _ _ from hw ▸ hp4 (.int .i64 (k + 5 * (i : Int) + 1 + 1 + 1 + 1)) ⟨(k + 5 * (i : Int)), (k + 5 * (i : Int) + 1), (k + 5 * (i : Int) + 1 + 1), (k + 5 * (i : Int) + 1 + 1 + 1), (k + 5 * (i : Int) + 1 + 1 + 1 + 1)⟩ rfl); replace hx := Lib.hid (show Only _ w w4 from hw ▸ hx.out.sets _ _); clear hw hp4))
      refine ⟨⟨i + 1, congrArg (Value.int .i64) (by omega), rfl, hlt, ?_, by rw [HT.out]; exact hx.out⟩, by simp only [intOf]; omega⟩
      rw [← HS.out]
      have := ho.out
      simp only [List.set_set] at this
      exact this
    · obtain rfl : i = xs.length := by omega
      rw [List.drop_length, List.append_nil] at ho
      go_wp2
      go_ret
      exact ⟨rfl, ho, hx⟩
set_option maxHeartbeats 1000000 in
set_option maxRecDepth 100000 in
theorem laws_heldPageS (A : Option Addr) (c n : Nat) (k : Int) (w : World) (h0 : 0 ≤ k) (hk : k + 5 * (n : Int) ≤ 1000000000000) (h : Row pg 5 w A (marks k n)) :
    Calls Tryd.prog 21 #[.slice A n c, .int .i64 k] w fun e w' => e = .returned (.int .i64 (k + 5 * (n : Int))) ∧ Below w.heap.size w w' := by
  have H := Lib.hid h
  clear h
  go_enter Tryd.func21, Tryd.ntmps21
  go_wp2
  go_loopw [1, 5] (fun a x wr => ∃ i : Nat, a = .int .i64 (k + 5 * (i : Int)) ∧ x = .int .i64 i ∧ i ≤ n ∧ Below w.heap.size w wr) (fun _ x _ => n - (intOf x).toNat)
  case atStart => exact ⟨0, by simp, rfl, Nat.zero_le _, Below.refl _ _⟩
  case round =>
    obtain ⟨i, rfl, rfl, hi, hb⟩ := hrel
    by_cases hlt : i < n
    · obtain ⟨g, o, rfl, k1⟩ := (H.out.below hb).out i _ (marks_at k n i hlt)
      obtain ⟨a0, a1, a2, a3, a4⟩ := lies5 k1
      clear k1
      simp only [mark] at a0 a1 a2 a3 a4
      go_wp2
      exact ⟨⟨i + 1, congrArg (Value.int .i64) (by omega), rfl, hlt, hb⟩, by simp only [intOf]; omega⟩
    · obtain rfl : i = n := by omega
      go_wp2
      go_ret
      exact ⟨rfl, hb⟩
end Go.Proofs.YtcchjdmioeocdaaDoor
