/- The law FnExactPageOk as a statement over five numbers: for every page the printed law answers true. -/
import Derived.Test.YtcchjdmioeocdaaPFnExactPageOkx1
namespace Go.Proofs.Ytcchjdmioeocdaa.Pure
open Go.RowKit Go.Proofs.Ytcchjdmioeocdaa.PFnExactPageOk Go.Proofs.YtcchjdmioeocdaaW.PrintWords Go.Proofs.YtcchjdmioeocdaaW.PrintLast
set_option linter.unusedVariables false
namespace PageOk

theorem page_same (a b c d e : Int) : ∃ r, spec_PageOk.f a b c d e = some r ∧ impl_PageOk.f a b c d e = some r := by
  unfold spec_PageOk.f impl_PageOk.f spec_l02Tick.f spec_l05Count.f impl_isTick.f impl_isCount.f spec_l01In.f impl_in.f
  by_cases h1 : 0 ≤ a
  · by_cases h2 : a ≤ 1000000000
    · by_cases h3 : 0 ≤ b
      · by_cases h4 : b ≤ 1000
        · by_cases h5 : 0 ≤ d
          · by_cases h6 : d ≤ 1000
            · by_cases h7 : c = -1
              · subst h7
                by_cases h8 : 1 ≤ e
                · by_cases h9 : e ≤ 5
                  · simp [h1, h2, h3, h4, h5, h6, h8, h9]
                    repeat' split
                    all_goals (simp_all <;> first | done | exact Decidable.not_or_of_imp id)
                  · simp [h1, h2, h3, h4, h5, h6, h8, h9]
                · simp [h1, h2, h3, h4, h5, h6, h8]
              · by_cases h8 : 0 ≤ c
                · by_cases h9 : c ≤ 1000
                  · have h10 : -1 ≤ c := by omega
                    by_cases h11 : 1 ≤ e
                    · by_cases h12 : e ≤ 5
                      · simp [h1, h2, h3, h4, h5, h6, h7, h8, h9, h10, h11, h12]
                        repeat' split
                        all_goals (simp_all <;> first | done | exact Decidable.not_or_of_imp id)
                      · simp [h1, h2, h3, h4, h5, h6, h7, h8, h9, h10, h11, h12]
                    · simp [h1, h2, h3, h4, h5, h6, h7, h8, h9, h10, h11]
                  · simp [h1, h2, h3, h4, h5, h6, h7, h8, h9]
                    try (split <;> simp)
                · have h10 : ¬ -1 ≤ c := by omega
                  simp [h1, h2, h3, h4, h5, h6, h7, h8, h10]
            · simp [h1, h2, h3, h4, h5, h6]
          · simp [h1, h2, h3, h4, h5]
        · simp [h1, h2, h3, h4]
      · simp [h1, h2, h3]
    · simp [h1, h2]
  · simp [h1]

end PageOk
theorem FnExactPageOk (a b c d e : Int) : laws_FnExactPageOk.f a b c d e = some true := by
  obtain ⟨r, h1, h2⟩ := PageOk.page_same a b c d e
  unfold laws_FnExactPageOk.f laws_toPage.f
  simp only [Option.bind_some, h1, h2]
  simp
end Go.Proofs.Ytcchjdmioeocdaa.Pure
