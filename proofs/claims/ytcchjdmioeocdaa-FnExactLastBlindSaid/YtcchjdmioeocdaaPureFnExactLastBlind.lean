/- The law FnExactLastBlind as a statement over lists of pages: for every list, with enough rounds, the printed law answers true. -/
import Derived.Test.YtcchjdmioeocdaaPFnExactLastBlindx2
namespace Go.Proofs.Ytcchjdmioeocdaa.Pure
open Go.RowKit Go.Proofs.Ytcchjdmioeocdaa.PFnExactLastBlind Go.Proofs.YtcchjdmioeocdaaW.PrintWords Go.Proofs.YtcchjdmioeocdaaW.PrintLast
set_option linter.unusedVariables false
namespace LastBlind
theorem w1 {i n : Nat} (h : i < n) (hn : n ≤ 1048576) : wrap64 ((i : Int) + 1) = ((i + 1 : Nat) : Int) := by unfold wrap64; omega
theorem rd27 (xs : List S27) (i : Nat) (h : i < xs.length) : rd_T27 xs (i : Int) = xs[i] := by
  unfold rd_T27; simp [List.getD, List.getElem?_eq_getElem h]
theorem rd25 (xs : List S25) (i : Nat) (h : i < xs.length) : rd_T25 xs (i : Int) = xs[i] := by
  unfold rd_T25; simp [List.getD, List.getElem?_eq_getElem h]
theorem drop_cons {α : Type} (xs : List α) (i : Nat) (h : i < xs.length) : xs.drop i = xs[i] :: xs.drop (i + 1) := List.drop_eq_getElem_cons h
theorem sz_eq (xs : List S25) (hn : xs.length ≤ 9223372036854775807) : laws_szPageS.f xs 1048576 = some (if xs.length ≤ 1048576 then (1048576 - (xs.length : Int)) else -1) := by
  have hw : wrap64 (1048576 - (xs.length : Int)) = 1048576 - (xs.length : Int) := by unfold wrap64; omega
  unfold laws_szPageS.f
  rw [hw]
  by_cases h : xs.length ≤ 1048576
  · rw [if_neg (by omega), if_pos h]
  · rw [if_pos (by omega), if_neg h]
def cv (x : S25) : S27 := ⟨x.f0, x.f1, x.f2, x.f3, x.f4⟩
theorem to_loop (xs : List S25) (hn : xs.length ≤ 1048576) (d : Nat) : ∀ (k i : Nat) (ys : List S27), ys.length = xs.length → i ≤ xs.length → xs.length - i = d → d < k → (∀ j (h1 : j < i) (h2 : j < xs.length) (h3 : j < ys.length), ys[j] = cv xs[j]) →
    laws_toPageS.l0 k xs ys i = some (xs.map cv) := by
  induction d with
  | zero =>
    intro k i ys hy hi hd hk hj
    obtain ⟨k, rfl⟩ : ∃ m, k = m + 1 := ⟨k - 1, by omega⟩
    simp only [laws_toPageS.l0]
    rw [if_neg (by omega)]
    congr 1
    refine List.ext_getElem (by simp [hy]) (fun j h1 h2 => ?_)
    rw [hj j (by omega) (by omega) h1]
    simp
  | succ d ih =>
    intro k i ys hy hi hd hk hj
    obtain ⟨k, rfl⟩ : ∃ m, k = m + 1 := ⟨k - 1, by omega⟩
    have hlt : i < xs.length := by omega
    simp only [laws_toPageS.l0]
    rw [if_pos (by omega), if_pos (by omega), rd25 xs i hlt]
    simp only [laws_toPage.f, Option.bind_some]
    rw [if_pos (by omega), w1 hlt hn]
    refine ih k (i + 1) _ (by simp [hy]) (by omega) (by omega) (by omega) (fun j h1 h2 h3 => ?_)
    rw [List.getElem_set]
    by_cases e : (i : Int).toNat = j
    · rw [if_pos e]
      have e' : i = j := by omega
      subst e'
      rfl
    · rw [if_neg e]
      exact hj j (by omega) h2 (by simpa using h3)
theorem to_eq (xs : List S25) (hn : xs.length ≤ 1048576) (k : Nat) (hk : xs.length < k) : laws_toPageS.f k xs = some (xs.map cv) := by
  unfold laws_toPageS.f
  rw [if_pos (by omega), if_pos (by omega)]
  exact to_loop xs hn xs.length k 0 _ (by simp) (by omega) (by omega) hk (fun j h => by omega)
theorem eq_loop (xs : List S27) (hn : xs.length ≤ 1048576) (d : Nat) : ∀ (k i : Nat), i ≤ xs.length → xs.length - i = d → d < k → laws_eqPageS.l0 k xs xs i = some true := by
  induction d with
  | zero =>
    intro k i hi hd hk
    obtain ⟨k, rfl⟩ : ∃ m, k = m + 1 := ⟨k - 1, by omega⟩
    simp only [laws_eqPageS.l0]
    rw [if_neg (by omega)]
  | succ d ih =>
    intro k i hi hd hk
    obtain ⟨k, rfl⟩ : ∃ m, k = m + 1 := ⟨k - 1, by omega⟩
    simp only [laws_eqPageS.l0]
    rw [if_pos (by omega), if_pos (by omega), if_pos (by omega)]
    simp only [laws_eqPage.f, if_true, Option.bind_some]
    rw [w1 (n := xs.length) (by omega) hn]
    exact ih k (i + 1) (by omega) (by omega) (by omega)
theorem eq_refl (xs : List S27) (hn : xs.length ≤ 1048576) (k : Nat) (hk : xs.length < k) : laws_eqPageS.f k xs xs = some true := by
  unfold laws_eqPageS.f
  rw [if_pos rfl]
  exact eq_loop xs hn xs.length k 0 (by omega) (by omega) hk

def lb (xs : List S27) (a : Int) : Int := xs.foldl (fun acc p => if p.f4 = 2 then p.f0 else acc) a
theorem spec_loop (xs : List S27) (hn : xs.length ≤ 1048576) (d : Nat) : ∀ (k i : Nat) (a : Int), i ≤ xs.length → xs.length - i = d → d < k → spec_LastBlind.l0 k xs a i = some (lb (xs.drop i) a) := by
  induction d with
  | zero =>
    intro k i a hi hd hk
    obtain ⟨k, rfl⟩ : ∃ m, k = m + 1 := ⟨k - 1, by omega⟩
    simp only [spec_LastBlind.l0]
    rw [if_neg (by omega), List.drop_of_length_le (by omega)]
    rfl
  | succ d ih =>
    intro k i a hi hd hk
    obtain ⟨k, rfl⟩ : ∃ m, k = m + 1 := ⟨k - 1, by omega⟩
    have hlt : i < xs.length := by omega
    simp only [spec_LastBlind.l0]
    rw [if_pos (by omega), if_pos (by omega), rd27 xs i hlt, w1 hlt hn, drop_cons xs i hlt, ih k (i + 1) _ (by omega) (by omega) (by omega), ih k (i + 1) _ (by omega) (by omega) (by omega)]
    by_cases h : (xs[i]).f4 = 2
    · rw [if_pos h]; exact congrArg some (by show _ = lb (xs.drop (i + 1)) (if (xs[i]).f4 = 2 then (xs[i]).f0 else a); rw [if_pos h])
    · rw [if_neg h]; exact congrArg some (by show _ = lb (xs.drop (i + 1)) (if (xs[i]).f4 = 2 then (xs[i]).f0 else a); rw [if_neg h])
theorem impl_loop (xs : List S27) (hn : xs.length ≤ 1048576) : ∀ (n k : Nat), n ≤ xs.length → n < k → impl_LastBlind.l0 k xs ((n : Int) - 1) = some (lb (xs.take n) (-1)) := by
  intro n
  induction n with
  | zero =>
    intro k hn' hk
    obtain ⟨k, rfl⟩ : ∃ m, k = m + 1 := ⟨k - 1, by omega⟩
    simp only [impl_LastBlind.l0]
    rw [if_neg (by omega)]
    rfl
  | succ n ih =>
    intro k hn' hk
    obtain ⟨k, rfl⟩ : ∃ m, k = m + 1 := ⟨k - 1, by omega⟩
    have hlt : n < xs.length := by omega
    simp only [impl_LastBlind.l0]
    have e : ((n + 1 : Nat) : Int) - 1 = (n : Int) := by omega
    have e2 : wrap64 ((n : Int) - 1) = (n : Int) - 1 := by unfold wrap64; omega
    rw [e, e2, if_pos (by omega), if_pos (by omega), if_pos (by omega), rd27 xs n hlt, ih k (by omega) (by omega), List.take_succ_eq_append_getElem hlt]
    have hstep : lb (xs.take n ++ [xs[n]]) (-1) = if (xs[n]).f4 = 2 then (xs[n]).f0 else lb (xs.take n) (-1) := by unfold lb; rw [List.foldl_append]; rfl
    rw [hstep]
    by_cases h : (xs[n]).f4 = 2
    · rw [if_pos h, if_pos h]
    · rw [if_neg h, if_neg h]

/-- For every list the printed law answers true. -/
theorem law (xs : List S25) (hn : xs.length ≤ 9223372036854775807) : ∃ k, laws_FnExactLastBlind.f k xs = some true := by
  refine ⟨xs.length + 8, ?_⟩
  unfold laws_FnExactLastBlind.f
  rw [sz_eq xs hn]
  simp only [Option.bind_some]
  by_cases h : xs.length ≤ 1048576
  · rw [if_pos h, if_neg (by omega), to_eq xs h _ (by omega)]
    have hl : (xs.map cv).length ≤ 1048576 := by simpa using h
    have hk : (xs.map cv).length < xs.length + 8 := by simp
    simp only [Option.bind_some]
    have h1 : spec_LastBlind.f (xs.length + 8) (xs.map cv) = some (lb (xs.map cv) (-1)) := by
      unfold spec_LastBlind.f
      exact (spec_loop _ hl _ _ 0 _ (by omega) rfl (by omega)).trans (by simp)
    have h2 : impl_LastBlind.f (xs.length + 8) (xs.map cv) = some (lb (xs.map cv) (-1)) := by
      unfold impl_LastBlind.f
      have e : wrap64 (((xs.map cv).length : Int) - 1) = ((xs.map cv).length : Int) - 1 := by unfold wrap64; omega
      rw [e]
      exact (impl_loop _ hl _ _ (Nat.le_refl _) hk).trans (by rw [List.take_length])
    rw [h1]; simp only [Option.bind_some]; rw [h2]; simp only [Option.bind_some, if_true]; rw [eq_refl _ hl _ hk]; rfl
  · rw [if_neg h]; rfl
end LastBlind
theorem FnExactLastBlind (xs : List S25) (hn : xs.length ≤ 9223372036854775807) : ∃ k, laws_FnExactLastBlind.f k xs = some true := LastBlind.law xs hn
end Go.Proofs.Ytcchjdmioeocdaa.Pure
