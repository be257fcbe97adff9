/- The law FnExactDriftOf as a statement over lists of pages: for every list, with enough rounds, the printed law answers true. -/
import Derived.Test.YtcchjdmioeocdaaPFnExactDriftOfx2
namespace Go.Proofs.Ytcchjdmioeocdaa.Pure
open Go.RowKit Go.Proofs.Ytcchjdmioeocdaa.PFnExactDriftOf Go.Proofs.YtcchjdmioeocdaaW.PrintWords Go.Proofs.YtcchjdmioeocdaaW.PrintLast
set_option linter.unusedVariables false
namespace DriftOf
theorem w1 {i n : Nat} (h : i < n) (hn : n ≤ 1048576) : wrap64 ((i : Int) + 1) = ((i + 1 : Nat) : Int) := by unfold wrap64; omega
theorem rd27 (xs : List S27) (i : Nat) (h : i < xs.length) : rd_T27 xs (i : Int) = xs[i] := by
  unfold rd_T27; simp [List.getD, List.getElem?_eq_getElem h]
theorem rd25 (xs : List S25) (i : Nat) (h : i < xs.length) : rd_T25 xs (i : Int) = xs[i] := by
  unfold rd_T25; simp [List.getD, List.getElem?_eq_getElem h]
theorem drop_cons {α : Type} (xs : List α) (i : Nat) (h : i < xs.length) : xs.drop i = xs[i] :: xs.drop (i + 1) := List.drop_eq_getElem_cons h
theorem sz_eq (xs : List S25) (hn : xs.length ≤ 9223372036854775807) : laws_szPageS.f xs 1048576 = some (if xs.length ≤ 1048576 then (1048576 - (xs.length : Int)) else -1) := by
  have hw : wrap64 (1048576 - (xs.length : Int)) = 1048576 - (xs.length : Int) := by unfold wrap64; omega
  unfold laws_szPageS.f
  rw [hw]
  by_cases h : xs.length ≤ 1048576
  · rw [if_neg (by omega), if_pos h]
  · rw [if_pos (by omega), if_neg h]
def cv (x : S25) : S27 := ⟨x.f0, x.f1, x.f2, x.f3, x.f4⟩
theorem to_loop (xs : List S25) (hn : xs.length ≤ 1048576) (d : Nat) : ∀ (k i : Nat) (ys : List S27), ys.length = xs.length → i ≤ xs.length → xs.length - i = d → d < k → (∀ j (h1 : j < i) (h2 : j < xs.length) (h3 : j < ys.length), ys[j] = cv xs[j]) →
    laws_toPageS.l0 k xs ys i = some (xs.map cv) := by
  induction d with
  | zero =>
    intro k i ys hy hi hd hk hj
    obtain ⟨k, rfl⟩ : ∃ m, k = m + 1 := ⟨k - 1, by omega⟩
    simp only [laws_toPageS.l0]
    rw [if_neg (by omega)]
    congr 1
    refine List.ext_getElem (by simp [hy]) (fun j h1 h2 => ?_)
    rw [hj j (by omega) (by omega) h1]
    simp
  | succ d ih =>
    intro k i ys hy hi hd hk hj
    obtain ⟨k, rfl⟩ : ∃ m, k = m + 1 := ⟨k - 1, by omega⟩
    have hlt : i < xs.length := by omega
    simp only [laws_toPageS.l0]
    rw [if_pos (by omega), if_pos (by omega), rd25 xs i hlt]
    simp only [laws_toPage.f, Option.bind_some]
    rw [if_pos (by omega), w1 hlt hn]
    refine ih k (i + 1) _ (by simp [hy]) (by omega) (by omega) (by omega) (fun j h1 h2 h3 => ?_)
    rw [List.getElem_set]
    by_cases e : (i : Int).toNat = j
    · rw [if_pos e]
      have e' : i = j := by omega
      subst e'
      rfl
    · rw [if_neg e]
      exact hj j (by omega) h2 (by simpa using h3)
theorem to_eq (xs : List S25) (hn : xs.length ≤ 1048576) (k : Nat) (hk : xs.length < k) : laws_toPageS.f k xs = some (xs.map cv) := by
  unfold laws_toPageS.f
  rw [if_pos (by omega), if_pos (by omega)]
  exact to_loop xs hn xs.length k 0 _ (by simp) (by omega) (by omega) hk (fun j h => by omega)
theorem eq_loop (xs : List S27) (hn : xs.length ≤ 1048576) (d : Nat) : ∀ (k i : Nat), i ≤ xs.length → xs.length - i = d → d < k → laws_eqPageS.l0 k xs xs i = some true := by
  induction d with
  | zero =>
    intro k i hi hd hk
    obtain ⟨k, rfl⟩ : ∃ m, k = m + 1 := ⟨k - 1, by omega⟩
    simp only [laws_eqPageS.l0]
    rw [if_neg (by omega)]
  | succ d ih =>
    intro k i hi hd hk
    obtain ⟨k, rfl⟩ : ∃ m, k = m + 1 := ⟨k - 1, by omega⟩
    simp only [laws_eqPageS.l0]
    rw [if_pos (by omega), if_pos (by omega), if_pos (by omega)]
    simp only [laws_eqPage.f, if_true, Option.bind_some]
    rw [w1 (n := xs.length) (by omega) hn]
    exact ih k (i + 1) (by omega) (by omega) (by omega)
theorem eq_refl (xs : List S27) (hn : xs.length ≤ 1048576) (k : Nat) (hk : xs.length < k) : laws_eqPageS.f k xs xs = some true := by
  unfold laws_eqPageS.f
  rw [if_pos rfl]
  exact eq_loop xs hn xs.length k 0 (by omega) (by omega) hk

def dr (xs : List S27) (a : Int) : Int := xs.foldl (fun acc p => if p.f2 = -1 then acc else mx (mx acc (wrap64 (p.f2 - p.f3))) (wrap64 (p.f3 - p.f2))) a
theorem impl_loop (xs : List S27) (hn : xs.length ≤ 1048576) (d : Nat) : ∀ (k i : Nat) (a : Int), i ≤ xs.length → xs.length - i = d → d < k → impl_DriftOf.l0 k a xs (xs.length : Int) i = some (dr (xs.drop i) a) := by
  induction d with
  | zero =>
    intro k i a hi hd hk
    obtain ⟨k, rfl⟩ : ∃ m, k = m + 1 := ⟨k - 1, by omega⟩
    simp only [impl_DriftOf.l0]
    rw [if_neg (by omega), List.drop_of_length_le (by omega)]
    rfl
  | succ d ih =>
    intro k i a hi hd hk
    obtain ⟨k, rfl⟩ : ∃ m, k = m + 1 := ⟨k - 1, by omega⟩
    have hlt : i < xs.length := by omega
    simp only [impl_DriftOf.l0]
    rw [if_pos (by omega), if_pos (by omega), if_pos (by omega), rd27 xs i hlt, w1 hlt hn, drop_cons xs i hlt, ih k (i + 1) _ (by omega) (by omega) (by omega), ih k (i + 1) _ (by omega) (by omega) (by omega)]
    have hstep : dr (xs[i] :: xs.drop (i + 1)) a = dr (xs.drop (i + 1)) (if (xs[i]).f2 = -1 then a else mx (mx a (wrap64 ((xs[i]).f2 - (xs[i]).f3))) (wrap64 ((xs[i]).f3 - (xs[i]).f2))) := rfl
    rw [hstep]
    by_cases h : (xs[i]).f2 = -1
    · rw [if_pos h, if_pos h]
    · rw [if_neg h, if_neg h]
theorem neg_case {a x y : Int} (h : wrap64 (x - y) < 0) (h0 : 0 ≤ a) : mx (mx a (wrap64 (x - y))) (wrap64 (y - x)) = if wrap64 (-(wrap64 (x - y))) > a then wrap64 (-(wrap64 (x - y))) else a := by
  have e : wrap64 (-(wrap64 (x - y))) = wrap64 (y - x) := by unfold wrap64; omega
  rw [e]
  generalize wrap64 (x - y) = u at *
  generalize wrap64 (y - x) = v at *
  unfold mx
  split <;> split <;> omega
theorem pos_case {a x y : Int} (h : ¬ wrap64 (x - y) < 0) (h0 : 0 ≤ a) : mx (mx a (wrap64 (x - y))) (wrap64 (y - x)) = if wrap64 (x - y) > a then wrap64 (x - y) else a := by
  have e : wrap64 (y - x) ≤ 0 := by unfold wrap64 at *; omega
  generalize wrap64 (x - y) = u at *
  generalize wrap64 (y - x) = v at *
  unfold mx
  split <;> split <;> omega
theorem dr_nn (p : S27) (a : Int) (h0 : 0 ≤ a) : 0 ≤ (if p.f2 = -1 then a else mx (mx a (wrap64 (p.f2 - p.f3))) (wrap64 (p.f3 - p.f2))) := by
  generalize wrap64 (p.f2 - p.f3) = u
  generalize wrap64 (p.f3 - p.f2) = v
  unfold mx
  split <;> omega
theorem spec_loop (xs : List S27) (hn : xs.length ≤ 1048576) (d : Nat) : ∀ (k i : Nat) (a : Int), 0 ≤ a → i ≤ xs.length → xs.length - i = d → d < k → spec_DriftOf.l0 k xs a i = some (dr (xs.drop i) a) := by
  induction d with
  | zero =>
    intro k i a h0 hi hd hk
    obtain ⟨k, rfl⟩ : ∃ m, k = m + 1 := ⟨k - 1, by omega⟩
    simp only [spec_DriftOf.l0]
    rw [if_neg (by omega), List.drop_of_length_le (by omega)]
    rfl
  | succ d ih =>
    intro k i a h0 hi hd hk
    obtain ⟨k, rfl⟩ : ∃ m, k = m + 1 := ⟨k - 1, by omega⟩
    have hlt : i < xs.length := by omega
    have hnn := dr_nn (xs[i]) a h0
    have hstep : dr (xs[i] :: xs.drop (i + 1)) a = dr (xs.drop (i + 1)) (if (xs[i]).f2 = -1 then a else mx (mx a (wrap64 ((xs[i]).f2 - (xs[i]).f3))) (wrap64 ((xs[i]).f3 - (xs[i]).f2))) := rfl
    simp only [spec_DriftOf.l0]
    rw [if_pos (by omega), if_pos (by omega), rd27 xs i hlt, w1 hlt hn, drop_cons xs i hlt, hstep]
    by_cases h : (xs[i]).f2 = -1
    · rw [if_pos h, if_pos h]
      exact ih k (i + 1) _ h0 (by omega) (by omega) (by omega)
    · rw [if_neg h, if_neg h]
      rw [if_neg h] at hnn
      by_cases hs : wrap64 ((xs[i]).f2 - (xs[i]).f3) < 0
      · rw [if_pos hs]
        rw [neg_case hs h0] at hnn ⊢
        split
        · rename_i hg; rw [if_pos hg] at hnn; exact ih k (i + 1) _ hnn (by omega) (by omega) (by omega)
        · exact ih k (i + 1) _ h0 (by omega) (by omega) (by omega)
      · rw [if_neg hs]
        rw [pos_case hs h0] at hnn ⊢
        split
        · rename_i hg; rw [if_pos hg] at hnn; exact ih k (i + 1) _ hnn (by omega) (by omega) (by omega)
        · exact ih k (i + 1) _ h0 (by omega) (by omega) (by omega)

/-- For every list the printed law answers true. -/
theorem law (xs : List S25) (hn : xs.length ≤ 9223372036854775807) : ∃ k, laws_FnExactDriftOf.f k xs = some true := by
  refine ⟨xs.length + 8, ?_⟩
  unfold laws_FnExactDriftOf.f
  rw [sz_eq xs hn]
  simp only [Option.bind_some]
  by_cases h : xs.length ≤ 1048576
  · rw [if_pos h, if_neg (by omega), to_eq xs h _ (by omega)]
    have hl : (xs.map cv).length ≤ 1048576 := by simpa using h
    have hk : (xs.map cv).length < xs.length + 8 := by simp
    simp only [Option.bind_some]
    have h1 : spec_DriftOf.f (xs.length + 8) (xs.map cv) = some (dr (xs.map cv) 0) := by
      unfold spec_DriftOf.f
      exact (spec_loop _ hl _ _ 0 _ (by omega) (by omega) rfl (by omega)).trans (by simp)
    have h2 : impl_DriftOf.f (xs.length + 8) (xs.map cv) = some (dr (xs.map cv) 0) := by
      unfold impl_DriftOf.f
      exact (impl_loop _ hl _ _ 0 _ (by omega) rfl (by omega)).trans (by simp)
    rw [h1]; simp only [Option.bind_some]; rw [h2]; simp only [Option.bind_some, if_true]; rw [eq_refl _ hl _ hk]; rfl
  · rw [if_neg h]; rfl
end DriftOf
theorem FnExactDriftOf (xs : List S25) (hn : xs.length ≤ 9223372036854775807) : ∃ k, laws_FnExactDriftOf.f k xs = some true := DriftOf.law xs hn
end Go.Proofs.Ytcchjdmioeocdaa.Pure
