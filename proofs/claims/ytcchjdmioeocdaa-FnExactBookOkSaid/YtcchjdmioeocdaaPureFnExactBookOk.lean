/- The law FnExactBookOk as a statement over lists of pages: for every list, with enough rounds, the printed law answers true. -/
import Derived.Test.YtcchjdmioeocdaaPFnExactBookOkx6
namespace Go.Proofs.Ytcchjdmioeocdaa.Pure
open Go.RowKit Go.Proofs.Ytcchjdmioeocdaa.PFnExactBookOk Go.Proofs.YtcchjdmioeocdaaW.PrintWords Go.Proofs.YtcchjdmioeocdaaW.PrintLast
set_option linter.unusedVariables false
namespace BookOk
theorem w1 {i n : Nat} (h : i < n) (hn : n ≤ 1048576) : wrap64 ((i : Int) + 1) = ((i + 1 : Nat) : Int) := by unfold wrap64; omega
theorem rd27 (xs : List S27) (i : Nat) (h : i < xs.length) : rd_T27 xs (i : Int) = xs[i] := by
  unfold rd_T27; simp [List.getD, List.getElem?_eq_getElem h]
theorem rd25 (xs : List S25) (i : Nat) (h : i < xs.length) : rd_T25 xs (i : Int) = xs[i] := by
  unfold rd_T25; simp [List.getD, List.getElem?_eq_getElem h]
theorem drop_cons {α : Type} (xs : List α) (i : Nat) (h : i < xs.length) : xs.drop i = xs[i] :: xs.drop (i + 1) := List.drop_eq_getElem_cons h
theorem sz_eq (xs : List S25) (hn : xs.length ≤ 9223372036854775807) : laws_szPageS.f xs 1048576 = some (if xs.length ≤ 1048576 then (1048576 - (xs.length : Int)) else -1) := by
  have hw : wrap64 (1048576 - (xs.length : Int)) = 1048576 - (xs.length : Int) := by unfold wrap64; omega
  unfold laws_szPageS.f
  rw [hw]
  by_cases h : xs.length ≤ 1048576
  · rw [if_neg (by omega), if_pos h]
  · rw [if_pos (by omega), if_neg h]
def cv (x : S25) : S27 := ⟨x.f0, x.f1, x.f2, x.f3, x.f4⟩
theorem to_loop (xs : List S25) (hn : xs.length ≤ 1048576) (d : Nat) : ∀ (k i : Nat) (ys : List S27), ys.length = xs.length → i ≤ xs.length → xs.length - i = d → d < k → (∀ j (h1 : j < i) (h2 : j < xs.length) (h3 : j < ys.length), ys[j] = cv xs[j]) →
    laws_toPageS.l0 k xs ys i = some (xs.map cv) := by
  induction d with
  | zero =>
    intro k i ys hy hi hd hk hj
    obtain ⟨k, rfl⟩ : ∃ m, k = m + 1 := ⟨k - 1, by omega⟩
    simp only [laws_toPageS.l0]
    rw [if_neg (by omega)]
    congr 1
    refine List.ext_getElem (by simp [hy]) (fun j h1 h2 => ?_)
    rw [hj j (by omega) (by omega) h1]
    simp
  | succ d ih =>
    intro k i ys hy hi hd hk hj
    obtain ⟨k, rfl⟩ : ∃ m, k = m + 1 := ⟨k - 1, by omega⟩
    have hlt : i < xs.length := by omega
    simp only [laws_toPageS.l0]
    rw [if_pos (by omega), if_pos (by omega), rd25 xs i hlt]
    simp only [laws_toPage.f, Option.bind_some]
    rw [if_pos (by omega), w1 hlt hn]
    refine ih k (i + 1) _ (by simp [hy]) (by omega) (by omega) (by omega) (fun j h1 h2 h3 => ?_)
    rw [List.getElem_set]
    by_cases e : (i : Int).toNat = j
    · rw [if_pos e]
      have e' : i = j := by omega
      subst e'
      rfl
    · rw [if_neg e]
      exact hj j (by omega) h2 (by simpa using h3)
theorem to_eq (xs : List S25) (hn : xs.length ≤ 1048576) (k : Nat) (hk : xs.length < k) : laws_toPageS.f k xs = some (xs.map cv) := by
  unfold laws_toPageS.f
  rw [if_pos (by omega), if_pos (by omega)]
  exact to_loop xs hn xs.length k 0 _ (by simp) (by omega) (by omega) hk (fun j h => by omega)
theorem eq_loop (xs : List S27) (hn : xs.length ≤ 1048576) (d : Nat) : ∀ (k i : Nat), i ≤ xs.length → xs.length - i = d → d < k → laws_eqPageS.l0 k xs xs i = some true := by
  induction d with
  | zero =>
    intro k i hi hd hk
    obtain ⟨k, rfl⟩ : ∃ m, k = m + 1 := ⟨k - 1, by omega⟩
    simp only [laws_eqPageS.l0]
    rw [if_neg (by omega)]
  | succ d ih =>
    intro k i hi hd hk
    obtain ⟨k, rfl⟩ : ∃ m, k = m + 1 := ⟨k - 1, by omega⟩
    simp only [laws_eqPageS.l0]
    rw [if_pos (by omega), if_pos (by omega), if_pos (by omega)]
    simp only [laws_eqPage.f, if_true, Option.bind_some]
    rw [w1 (n := xs.length) (by omega) hn]
    exact ih k (i + 1) (by omega) (by omega) (by omega)
theorem eq_refl (xs : List S27) (hn : xs.length ≤ 1048576) (k : Nat) (hk : xs.length < k) : laws_eqPageS.f k xs xs = some true := by
  unfold laws_eqPageS.f
  rw [if_pos rfl]
  exact eq_loop xs hn xs.length k 0 (by omega) (by omega) hk

theorem page_same (a b c d e : Int) : ∃ r, spec_PageOk.f a b c d e = some r ∧ impl_PageOk.f a b c d e = some r := by
  unfold spec_PageOk.f impl_PageOk.f spec_l02Tick.f spec_l05Count.f impl_isTick.f impl_isCount.f spec_l01In.f impl_in.f
  by_cases h1 : 0 ≤ a
  · by_cases h2 : a ≤ 1000000000
    · by_cases h3 : 0 ≤ b
      · by_cases h4 : b ≤ 1000
        · by_cases h5 : 0 ≤ d
          · by_cases h6 : d ≤ 1000
            · by_cases h7 : c = -1
              · subst h7
                by_cases h8 : 1 ≤ e
                · by_cases h9 : e ≤ 5
                  · simp [h1, h2, h3, h4, h5, h6, h8, h9]
                    repeat' split
                    all_goals (simp_all <;> first | done | exact Decidable.not_or_of_imp id)
                  · simp [h1, h2, h3, h4, h5, h6, h8, h9]
                · simp [h1, h2, h3, h4, h5, h6, h8]
              · by_cases h8 : 0 ≤ c
                · by_cases h9 : c ≤ 1000
                  · have h10 : -1 ≤ c := by omega
                    by_cases h11 : 1 ≤ e
                    · by_cases h12 : e ≤ 5
                      · simp [h1, h2, h3, h4, h5, h6, h7, h8, h9, h10, h11, h12]
                        repeat' split
                        all_goals (simp_all <;> first | done | exact Decidable.not_or_of_imp id)
                      · simp [h1, h2, h3, h4, h5, h6, h7, h8, h9, h10, h11, h12]
                    · simp [h1, h2, h3, h4, h5, h6, h7, h8, h9, h10, h11]
                  · simp [h1, h2, h3, h4, h5, h6, h7, h8, h9]
                    try (split <;> simp)
                · have h10 : ¬ -1 ≤ c := by omega
                  simp [h1, h2, h3, h4, h5, h6, h7, h8, h10]
            · simp [h1, h2, h3, h4, h5, h6]
          · simp [h1, h2, h3, h4, h5]
        · simp [h1, h2, h3, h4]
      · simp [h1, h2, h3]
    · simp [h1, h2]
  · simp [h1]

theorem both_loop (xs : List S27) (hn : xs.length ≤ 200) (d : Nat) : ∀ (k i : Nat), i ≤ xs.length → xs.length - i = d → d < k → ∃ r, spec_BookOk.l0 k xs i = some r ∧ impl_BookOk.l0 k xs xs (xs.length : Int) i = some r := by
  induction d with
  | zero =>
    intro k i hi hd hk
    obtain ⟨k, rfl⟩ : ∃ m, k = m + 1 := ⟨k - 1, by omega⟩
    refine ⟨true, ?_, ?_⟩
    · simp only [spec_BookOk.l0]; rw [if_neg (by omega)]
    · simp only [impl_BookOk.l0]; rw [if_neg (by omega)]; simp; omega
  | succ d ih =>
    intro k i hi hd hk
    obtain ⟨k, rfl⟩ : ∃ m, k = m + 1 := ⟨k - 1, by omega⟩
    have hlt : i < xs.length := by omega
    obtain ⟨r, h1, h2⟩ := ih k (i + 1) (by omega) (by omega) (by omega)
    obtain ⟨b, hb1, hb2⟩ := page_same (xs[i]).f0 (xs[i]).f1 (xs[i]).f2 (xs[i]).f3 (xs[i]).f4
    have hs : spec_BookOk.l0 (k + 1) xs i = (if b = true then (if (i : Int) > 0 then (if 0 ≤ (wrap64 ((i : Int) - 1)) then (if (wrap64 ((i : Int) - 1)) < (xs.length : Int) then (if ((rd_T27 xs (wrap64 ((i : Int) - 1))).f0) > (xs[i]).f0 then (some false) else some r) else (none)) else (none)) else some r) else (some false)) := by
      simp only [spec_BookOk.l0]
      rw [if_pos (by omega), if_pos (by omega), rd27 xs i hlt, hb1, w1 (n := xs.length) hlt (by omega), h1]
      simp only [Option.bind_some]
    have hi2 : impl_BookOk.l0 (k + 1) xs xs (xs.length : Int) i = (if b = true then (if (i : Int) > 0 then (if 0 ≤ (wrap64 ((i : Int) - 1)) then (if (wrap64 ((i : Int) - 1)) < (xs.length : Int) then (if ((rd_T27 xs (wrap64 ((i : Int) - 1))).f0) > (xs[i]).f0 then (some false) else some r) else (none)) else (none)) else some r) else (some false)) := by
      simp only [impl_BookOk.l0]
      rw [if_pos (by omega), if_pos (by omega), if_pos (by omega), rd27 xs i hlt, hb2, w1 (n := xs.length) hlt (by omega), h2]
      simp only [Option.bind_some]
    rw [hs, hi2]
    cases b with
    | false => exact ⟨false, by simp, by simp⟩
    | true =>
      rw [if_pos rfl]
      by_cases h0 : (i : Int) > 0
      · have e : wrap64 ((i : Int) - 1) = ((i - 1 : Nat) : Int) := by unfold wrap64; omega
        rw [if_pos h0, e, if_pos (by omega), if_pos (by omega)]
        split
        · exact ⟨false, rfl, rfl⟩
        · exact ⟨r, rfl, rfl⟩
      · rw [if_neg h0]
        exact ⟨r, rfl, rfl⟩
theorem long_loop (xs : List S27) (hn : 200 < xs.length) (hn' : xs.length ≤ 1048576) (d : Nat) : ∀ (k i : Nat), i ≤ xs.length → xs.length - i = d → d < k → impl_BookOk.l0 k xs xs (xs.length : Int) i = some false := by
  induction d with
  | zero =>
    intro k i hi hd hk
    obtain ⟨k, rfl⟩ : ∃ m, k = m + 1 := ⟨k - 1, by omega⟩
    simp only [impl_BookOk.l0]; rw [if_neg (by omega)]; simp; omega
  | succ d ih =>
    intro k i hi hd hk
    obtain ⟨k, rfl⟩ : ∃ m, k = m + 1 := ⟨k - 1, by omega⟩
    have hlt : i < xs.length := by omega
    have h2 := ih k (i + 1) (by omega) (by omega) (by omega)
    obtain ⟨b, hb1, hb2⟩ := page_same (xs[i]).f0 (xs[i]).f1 (xs[i]).f2 (xs[i]).f3 (xs[i]).f4
    simp only [impl_BookOk.l0]
    rw [if_pos (by omega), if_pos (by omega), if_pos (by omega), rd27 xs i hlt, hb2, w1 (n := xs.length) hlt (by omega), h2]
    simp only [Option.bind_some]
    cases b with
    | false => simp
    | true =>
      rw [if_pos rfl]
      by_cases h0 : (i : Int) > 0
      · have e : wrap64 ((i : Int) - 1) = ((i - 1 : Nat) : Int) := by unfold wrap64; omega
        rw [if_pos h0, e, if_pos (by omega), if_pos (by omega), rd27 xs (i - 1) (by omega)]
        split <;> rfl
      · rw [if_neg h0]

/-- For every list the printed law answers true. -/
theorem law (xs : List S25) (hn : xs.length ≤ 9223372036854775807) : ∃ k, laws_FnExactBookOk.f k xs = some true := by
  refine ⟨xs.length + 8, ?_⟩
  unfold laws_FnExactBookOk.f
  rw [sz_eq xs hn]
  simp only [Option.bind_some]
  by_cases h : xs.length ≤ 1048576
  · rw [if_pos h, if_neg (by omega), to_eq xs h _ (by omega)]
    have hl : (xs.map cv).length ≤ 1048576 := by simpa using h
    have hk : (xs.map cv).length < xs.length + 8 := by simp
    simp only [Option.bind_some]
    have h1 : ∃ r, spec_BookOk.f (xs.length + 8) (xs.map cv) = some r ∧ impl_BookOk.f (xs.length + 8) (xs.map cv) = some r := by
      unfold spec_BookOk.f impl_BookOk.f
      by_cases h2 : (xs.map cv).length ≤ 200
      · rw [if_neg (by omega)]
        exact both_loop _ h2 _ _ 0 (by omega) rfl (by omega)
      · rw [if_pos (by omega)]
        exact ⟨false, rfl, long_loop _ (by omega) hl _ _ 0 (by omega) rfl (by omega)⟩
    obtain ⟨r, h1, h2⟩ := h1
    rw [h1]; simp only [Option.bind_some]; rw [h2]; simp only [Option.bind_some]; rw [eq_refl _ hl _ hk]; simp
  · rw [if_neg h]; rfl
end BookOk
theorem FnExactBookOk (xs : List S25) (hn : xs.length ≤ 9223372036854775807) : ∃ k, laws_FnExactBookOk.f k xs = some true := BookOk.law xs hn
end Go.Proofs.Ytcchjdmioeocdaa.Pure
