/- The law FnExactCountConds as a statement over lists of pages: for every list, with enough rounds, the printed law answers true. -/
import Derived.Test.YtcchjdmioeocdaaCcC
namespace Go.Proofs.Ytcchjdmioeocdaa.Pure
open Go.RowKit Go.Proofs.Ytcchjdmioeocdaa.PFnExactCountConds Go.Proofs.YtcchjdmioeocdaaW.PrintWords Go.Proofs.YtcchjdmioeocdaaW.PrintLast
set_option linter.unusedVariables false
set_option linter.unusedSimpArgs false
namespace CountConds
theorem w1 {i n : Nat} (h : i < n) (hn : n ≤ 1048576) : wrap64 ((i : Int) + 1) = ((i + 1 : Nat) : Int) := by unfold wrap64; omega
theorem rd27 (xs : List S27) (i : Nat) (h : i < xs.length) : rd_T27 xs (i : Int) = xs[i] := by
  unfold rd_T27; simp [List.getD, List.getElem?_eq_getElem h]
theorem rd25 (xs : List S25) (i : Nat) (h : i < xs.length) : rd_T25 xs (i : Int) = xs[i] := by
  unfold rd_T25; simp [List.getD, List.getElem?_eq_getElem h]
theorem drop_cons {α : Type} (xs : List α) (i : Nat) (h : i < xs.length) : xs.drop i = xs[i] :: xs.drop (i + 1) := List.drop_eq_getElem_cons h
theorem sz_eq (xs : List S25) (hn : xs.length ≤ 9223372036854775807) : laws_szPageS.f xs 1048576 = some (if xs.length ≤ 1048576 then (1048576 - (xs.length : Int)) else -1) := by
  have hw : wrap64 (1048576 - (xs.length : Int)) = 1048576 - (xs.length : Int) := by unfold wrap64; omega
  unfold laws_szPageS.f
  rw [hw]
  by_cases h : xs.length ≤ 1048576
  · rw [if_neg (by omega), if_pos h]
  · rw [if_pos (by omega), if_neg h]
def cv (x : S25) : S27 := ⟨x.f0, x.f1, x.f2, x.f3, x.f4⟩
theorem to_loop (xs : List S25) (hn : xs.length ≤ 1048576) (d : Nat) : ∀ (k i : Nat) (ys : List S27), ys.length = xs.length → i ≤ xs.length → xs.length - i = d → d < k → (∀ j (h1 : j < i) (h2 : j < xs.length) (h3 : j < ys.length), ys[j] = cv xs[j]) →
    laws_toPageS.l0 k xs ys i = some (xs.map cv) := by
  induction d with
  | zero =>
    intro k i ys hy hi hd hk hj
    obtain ⟨k, rfl⟩ : ∃ m, k = m + 1 := ⟨k - 1, by omega⟩
    simp only [laws_toPageS.l0]
    rw [if_neg (by omega)]
    congr 1
    refine List.ext_getElem (by simp [hy]) (fun j h1 h2 => ?_)
    rw [hj j (by omega) (by omega) h1]
    simp
  | succ d ih =>
    intro k i ys hy hi hd hk hj
    obtain ⟨k, rfl⟩ : ∃ m, k = m + 1 := ⟨k - 1, by omega⟩
    have hlt : i < xs.length := by omega
    simp only [laws_toPageS.l0]
    rw [if_pos (by omega), if_pos (by omega), rd25 xs i hlt]
    simp only [laws_toPage.f, Option.bind_some]
    rw [if_pos (by omega), w1 hlt hn]
    refine ih k (i + 1) _ (by simp [hy]) (by omega) (by omega) (by omega) (fun j h1 h2 h3 => ?_)
    rw [List.getElem_set]
    by_cases e : (i : Int).toNat = j
    · rw [if_pos e]
      have e' : i = j := by omega
      subst e'
      rfl
    · rw [if_neg e]
      exact hj j (by omega) h2 (by simpa using h3)
theorem to_eq (xs : List S25) (hn : xs.length ≤ 1048576) (k : Nat) (hk : xs.length < k) : laws_toPageS.f k xs = some (xs.map cv) := by
  unfold laws_toPageS.f
  rw [if_pos (by omega), if_pos (by omega)]
  exact to_loop xs hn xs.length k 0 _ (by simp) (by omega) (by omega) hk (fun j h => by omega)
theorem eq_loop (xs : List S27) (hn : xs.length ≤ 1048576) (d : Nat) : ∀ (k i : Nat), i ≤ xs.length → xs.length - i = d → d < k → laws_eqPageS.l0 k xs xs i = some true := by
  induction d with
  | zero =>
    intro k i hi hd hk
    obtain ⟨k, rfl⟩ : ∃ m, k = m + 1 := ⟨k - 1, by omega⟩
    simp only [laws_eqPageS.l0]
    rw [if_neg (by omega)]
  | succ d ih =>
    intro k i hi hd hk
    obtain ⟨k, rfl⟩ : ∃ m, k = m + 1 := ⟨k - 1, by omega⟩
    simp only [laws_eqPageS.l0]
    rw [if_pos (by omega), if_pos (by omega), if_pos (by omega)]
    simp only [laws_eqPage.f, if_true, Option.bind_some]
    rw [w1 (n := xs.length) (by omega) hn]
    exact ih k (i + 1) (by omega) (by omega) (by omega)
theorem eq_refl (xs : List S27) (hn : xs.length ≤ 1048576) (k : Nat) (hk : xs.length < k) : laws_eqPageS.f k xs xs = some true := by
  unfold laws_eqPageS.f
  rw [if_pos rfl]
  exact eq_loop xs hn xs.length k 0 (by omega) (by omega) hk

def st (c : List Int) (p : S27) : List Int := if 0 ≤ p.f4 ∧ p.f4 ≤ 5 then c.set p.f4.toNat (wrap64 (rd c p.f4 + 1)) else c
theorem st_len (c : List Int) (p : S27) : (st c p).length = c.length := by unfold st; split <;> simp
def cc (xs : List S27) (c : List Int) : List Int := xs.foldl st c
theorem cc_len (xs : List S27) : ∀ c : List Int, (cc xs c).length = c.length := by
  induction xs with
  | nil => intro c; rfl
  | cons x xs ih => intro c; show (cc xs (st c x)).length = _; rw [ih, st_len]
theorem spec_loop (xs : List S27) (hn : xs.length ≤ 1048576) (d : Nat) : ∀ (k i : Nat) (c : List Int), c.length = 6 → i ≤ xs.length → xs.length - i = d → d < k → spec_CountConds.l0 k xs c i = some (cc (xs.drop i) c) := by
  induction d with
  | zero =>
    intro k i c hc hi hd hk
    obtain ⟨k, rfl⟩ : ∃ m, k = m + 1 := ⟨k - 1, by omega⟩
    simp only [spec_CountConds.l0]
    rw [if_neg (by omega), List.drop_of_length_le (by omega)]
    rfl
  | succ d ih =>
    intro k i c hc hi hd hk
    obtain ⟨k, rfl⟩ : ∃ m, k = m + 1 := ⟨k - 1, by omega⟩
    have hlt : i < xs.length := by omega
    have hstep : cc (xs[i] :: xs.drop (i + 1)) c = cc (xs.drop (i + 1)) (st c xs[i]) := rfl
    simp only [spec_CountConds.l0]
    rw [if_pos (by omega), if_pos (by omega), rd27 xs i hlt, w1 hlt hn, drop_cons xs i hlt, hstep]
    unfold spec_l01In.f
    by_cases h0 : 0 ≤ (xs[i]).f4
    · rw [if_pos h0]
      simp only [Option.bind_some]
      by_cases h5 : (xs[i]).f4 ≤ 5
      · have e : st c xs[i] = c.set (xs[i]).f4.toNat (wrap64 (rd c (xs[i]).f4 + 1)) := by unfold st; rw [if_pos ⟨h0, h5⟩]
        rw [decide_eq_true h5, if_pos rfl, if_pos h0, if_pos (by omega), e]
        exact ih k (i + 1) _ (by simp [hc]) (by omega) (by omega) (by omega)
      · have e : st c xs[i] = c := by unfold st; rw [if_neg (by omega)]
        rw [decide_eq_false h5, if_neg (by simp), e]
        exact ih k (i + 1) _ hc (by omega) (by omega) (by omega)
    · have e : st c xs[i] = c := by unfold st; rw [if_neg (by omega)]
      rw [if_neg h0, e]
      simp only [Option.bind_some]
      rw [if_neg (by simp)]
      exact ih k (i + 1) _ hc (by omega) (by omega) (by omega)
theorem impl_loop (xs : List S27) (hn : xs.length ≤ 1048576) (d : Nat) : ∀ (k i : Nat) (c : List Int), c.length = 6 → i ≤ xs.length → xs.length - i = d → d < k → impl_CountConds.l0 k c xs (xs.length : Int) i = some (cc (xs.drop i) c) := by
  induction d with
  | zero =>
    intro k i c hc hi hd hk
    obtain ⟨k, rfl⟩ : ∃ m, k = m + 1 := ⟨k - 1, by omega⟩
    simp only [impl_CountConds.l0]
    rw [if_neg (by omega), List.drop_of_length_le (by omega)]
    rfl
  | succ d ih =>
    intro k i c hc hi hd hk
    obtain ⟨k, rfl⟩ : ∃ m, k = m + 1 := ⟨k - 1, by omega⟩
    have hlt : i < xs.length := by omega
    have hstep : cc (xs[i] :: xs.drop (i + 1)) c = cc (xs.drop (i + 1)) (st c xs[i]) := rfl
    simp only [impl_CountConds.l0]
    rw [if_pos (by omega), if_pos (by omega), if_pos (by omega), rd27 xs i hlt, w1 hlt hn, drop_cons xs i hlt, hstep]
    unfold impl_in.f
    by_cases h0 : 0 ≤ (xs[i]).f4
    · rw [if_pos h0]
      simp only [Option.bind_some]
      by_cases h5 : (xs[i]).f4 ≤ 5
      · have e : st c xs[i] = c.set (xs[i]).f4.toNat (wrap64 (rd c (xs[i]).f4 + 1)) := by unfold st; rw [if_pos ⟨h0, h5⟩]
        rw [decide_eq_true h5, if_pos rfl, if_pos h0, if_pos (by omega), e]
        exact ih k (i + 1) _ (by simp [hc]) (by omega) (by omega) (by omega)
      · have e : st c xs[i] = c := by unfold st; rw [if_neg (by omega)]
        rw [decide_eq_false h5, if_neg (by simp), e]
        exact ih k (i + 1) _ hc (by omega) (by omega) (by omega)
    · have e : st c xs[i] = c := by unfold st; rw [if_neg (by omega)]
      rw [if_neg h0, e]
      simp only [Option.bind_some]
      rw [if_neg (by simp)]
      exact ih k (i + 1) _ hc (by omega) (by omega) (by omega)
theorem six {c : List Int} (h : c.length = 6) : ∃ a0 a1 a2 a3 a4 a5, c = [a0, a1, a2, a3, a4, a5] := by
  match c, h with
  | [a0, a1, a2, a3, a4, a5], _ => exact ⟨a0, a1, a2, a3, a4, a5, rfl⟩
theorem e1 : wrap64 1 = 1 := by unfold wrap64; omega
theorem e2 : wrap64 2 = 2 := by unfold wrap64; omega
theorem e3 : wrap64 3 = 3 := by unfold wrap64; omega
theorem e4 : wrap64 4 = 4 := by unfold wrap64; omega
theorem e5 : wrap64 5 = 5 := by unfold wrap64; omega
theorem e6 : wrap64 6 = 6 := by unfold wrap64; omega
theorem e7 : wrap64 7 = 7 := by unfold wrap64; omega
theorem eqInt {c : List Int} (h : c.length = 6) (k : Nat) : laws_eqIntS.f (k + 7) c c = some true := by
  obtain ⟨a0, a1, a2, a3, a4, a5, rfl⟩ := six h
  simp [laws_eqIntS.f, laws_eqIntS.l0, e1, e2, e3, e4, e5, e6]
theorem markInt {c : List Int} (h : c.length = 6) (k : Nat) : laws_markIntS.f (k + 7) c 1 = some (7, [1, 2, 3, 4, 5, 6]) := by
  obtain ⟨a0, a1, a2, a3, a4, a5, rfl⟩ := six h
  simp [laws_markIntS.f, laws_markIntS.l0, e1, e2, e3, e4, e5, e6, e7]
theorem heldInt (k : Nat) : laws_heldIntS.f (k + 7) [1, 2, 3, 4, 5, 6] 1 = some 7 := by
  simp [laws_heldIntS.f, laws_heldIntS.l0, rd, e1, e2, e3, e4, e5, e6, e7]
theorem mark_loop (n : Nat) (hn : n ≤ 1048576) (d : Nat) : ∀ (k i : Nat) (a : Int) (xs : List S27), xs.length = n → 0 ≤ a → a ≤ 1 + 5 * i → i ≤ n → n - i = d → d < k → ∃ r, laws_markPageS.l0 k xs a i = some r ∧ 0 ≤ r.1 := by
  induction d with
  | zero =>
    intro k i a xs hx h0 ha hi hd hk
    obtain ⟨k, rfl⟩ : ∃ m, k = m + 1 := ⟨k - 1, by omega⟩
    simp only [laws_markPageS.l0]
    rw [if_neg (by omega)]
    exact ⟨_, rfl, h0⟩
  | succ d ih =>
    intro k i a xs hx h0 ha hi hd hk
    obtain ⟨k, rfl⟩ : ∃ m, k = m + 1 := ⟨k - 1, by omega⟩
    have hlt : i < xs.length := by omega
    simp only [laws_markPageS.l0, Option.bind_some]
    rw [if_pos (by omega), if_pos (by omega), w1 hlt (by omega)]
    have e1 : wrap64 (a + 1) = a + 1 := by unfold wrap64; omega
    have e2 : wrap64 (a + 1 + 1) = a + 2 := by unfold wrap64; omega
    have e3 : wrap64 (a + 2 + 1) = a + 3 := by unfold wrap64; omega
    have e4 : wrap64 (a + 3 + 1) = a + 4 := by unfold wrap64; omega
    have e5 : wrap64 (a + 4 + 1) = a + 5 := by unfold wrap64; omega
    rw [e1, e2, e3, e4, e5]
    exact ih k (i + 1) _ _ (by simp [hx]) (by omega) (by omega) (by omega) (by omega) (by omega)

/-- For every list the printed law answers true. -/
theorem law (xs : List S25) (hn : xs.length ≤ 9223372036854775807) : ∃ k, laws_FnExactCountConds.f k xs = some true := by
  refine ⟨xs.length + 8, ?_⟩
  unfold laws_FnExactCountConds.f
  rw [sz_eq xs hn]
  simp only [Option.bind_some]
  by_cases h : xs.length ≤ 1048576
  · rw [if_pos h, if_neg (by omega), to_eq xs h _ (by omega)]
    have hl : (xs.map cv).length ≤ 1048576 := by simpa using h
    have hk : (xs.map cv).length < xs.length + 8 := by simp
    simp only [Option.bind_some]
    have h1 : ∀ k, xs.length < k → spec_CountConds.f k (xs.map cv) = some (cc (xs.map cv) (List.replicate 6 0)) := by
      intro k hk
      unfold spec_CountConds.f
      rw [if_pos (by omega)]
      exact (spec_loop _ hl _ _ 0 _ (by simp) (by omega) rfl (by simp; omega)).trans (by simp)
    have h2 : ∀ k, xs.length < k → impl_CountConds.f k (xs.map cv) = some (cc (xs.map cv) (List.replicate 6 0)) := by
      intro k hk
      unfold impl_CountConds.f
      rw [if_pos (by omega)]
      exact (impl_loop _ hl _ _ 0 _ (by simp) (by omega) rfl (by simp; omega)).trans (by simp)
    have hc : (cc (xs.map cv) (List.replicate 6 0)).length = 6 := by rw [cc_len]; rfl
    generalize cc (xs.map cv) (List.replicate 6 0) = c at *
    rw [h1 _ (by omega)]; simp only [Option.bind_some]; rw [h2 _ (by omega)]; simp only [Option.bind_some]
    rw [eqInt hc (xs.length + 1)]; simp only [Option.bind_some, if_true]; rw [eq_refl _ hl _ hk]; simp only [Option.bind_some, if_true]
    obtain ⟨r, hr, hr0⟩ := mark_loop (xs.map cv).length hl (xs.map cv).length (xs.length + 8) 0 1 (xs.map cv) rfl (by omega) (by omega) (by omega) (by omega) (by omega)
    have hr' : laws_markPageS.f (xs.length + 8) (xs.map cv) 1 = some r := hr
    rw [hr']; simp only [Option.bind_some]; rw [if_neg (by omega)]
    simp only [laws_FnExactCountConds.j0, Bool.not_true]
    rw [if_neg (by simp), markInt hc xs.length]; simp only [Option.bind_some]
    rw [heldInt xs.length]; simp only [Option.bind_some]; rw [if_neg (by omega), if_pos trivial, to_eq xs h _ (by omega)]; simp only [Option.bind_some]
    rw [h2 _ (by omega)]; simp only [Option.bind_some]; rw [eqInt hc xs.length]; simp only [Option.bind_some, if_true]
    rw [if_neg (by omega)]
  · rw [if_neg h]; rfl
end CountConds
theorem FnExactCountConds (xs : List S25) (hn : xs.length ≤ 9223372036854775807) : ∃ k, laws_FnExactCountConds.f k xs = some true := CountConds.law xs hn
end Go.Proofs.Ytcchjdmioeocdaa.Pure
