/- The law FnExactSumOf as a statement over strings: for every text the two checksums agree. -/
import Derived.Test.YtcchjdmioeocdaaPFnExactSumOfx1
namespace Go.Proofs.Ytcchjdmioeocdaa.Pure
open Go.RowKit Go.Proofs.Ytcchjdmioeocdaa.PFnExactSumOf Go.Proofs.YtcchjdmioeocdaaW.PrintWords Go.Proofs.YtcchjdmioeocdaaW.PrintLast

theorem sum_both (s : ByteArray) (hn : s.size ≤ 140737488351232) (d : Nat) : ∀ (k : Nat) (a i : Int), 0 ≤ i → i ≤ s.size → (s.size : Int) - i = d → d < k →
    ∃ r, spec_SumOf.l0 k s a i = some r ∧ impl_SumOf.l0 k s a (s.size : Int) i = some r := by
  induction d with
  | zero =>
    intro k a i h0 h1 hd hk
    obtain ⟨k, rfl⟩ : ∃ m, k = m + 1 := ⟨k - 1, by omega⟩
    refine ⟨a, ?_, ?_⟩
    · simp only [spec_SumOf.l0]; rw [if_neg (by omega)]
    · simp only [impl_SumOf.l0]; rw [if_neg (by omega)]
  | succ d ih =>
    intro k a i h0 h1 hd hk
    obtain ⟨k, rfl⟩ : ∃ m, k = m + 1 := ⟨k - 1, by omega⟩
    have hlt : i < (s.size : Int) := by omega
    have hw : wrap64 (i + 1) = i + 1 := by unfold wrap64; omega
    obtain ⟨r, h2, h3⟩ := ih k (Int.tmod (wrap64 ((wrap64 (131 * a)) + (wrap64 (bt s i)))) 1000003) (i + 1) (by omega) (by omega) (by omega) (by omega)
    refine ⟨r, ?_, ?_⟩
    · simp only [spec_SumOf.l0]; rw [if_pos hlt, if_pos h0, hw]; exact h2
    · simp only [impl_SumOf.l0]; rw [if_pos hlt, if_pos h0, if_pos hlt, hw]; exact h3

theorem FnExactSumOf : laws_FnExactSumOf.Pure := by
  intro s hn
  obtain ⟨r, h2, h3⟩ := sum_both s hn s.size (s.size + 1) 7 0 (by omega) (by omega) (by omega) (by omega)
  refine ⟨s.size + 1, ?_⟩
  unfold laws_FnExactSumOf.f spec_SumOf.f impl_SumOf.f
  by_cases hc : (s.size : Int) > 1048576
  · rw [if_pos hc]
  · rw [if_neg hc, h2, h3]; simp

end Go.Proofs.Ytcchjdmioeocdaa.Pure
