/- What a book read back is: plain, no program. No condition. -/
import Derived.Test.YtcchjdmioeocdaaDoorB10
import Derived.Lib.LastIndexByte
namespace Go.Proofs.YtcchjdmioeocdaaDoor
open Go.RowKit
def atOf (l : ByteArray) : Int := Lib.lastIndexByte l 32
def before (l : ByteArray) : ByteArray := l.extract 0 (atOf l).toNat
def after (l : ByteArray) : ByteArray := l.extract ((atOf l).toNat + 1) l.size
def nextSum (l : ByteArray) (s : Int) : Int := sumOf (before l ++ ⟨#[32]⟩ ++ num s)
def readL : List ByteArray → Nat → Int → List Page → List Page × Int
  | [], _, _, acc => (acc, -1)
  | l :: ls, i, s, acc =>
    if i = 200 ∨ atOf l < 0 then (acc, (i : Int))
    else if (parsePage (before l)).2 = true ∧ after l = num (nextSum l s) then readL ls (i + 1) (nextSum l s) (acc ++ [(parsePage (before l)).1])
    else (acc, (i : Int))
def whole (s : ByteArray) : Bool := decide (s.size = 0) || [10].isSuffixOf s.data.toList
def readBook (s : ByteArray) : List Page × Int :=
  if whole s = true then readL (lines s) 0 0 []
  else if (readL (lines s) 0 0 []).2 = -1 then ((readL (lines s) 0 0 []).1.take ((readL (lines s) 0 0 []).1.length - 1), ((readL (lines s) 0 0 []).1.length : Int) - 1)
  else readL (lines s) 0 0 []
theorem at_cases (l : ByteArray) : atOf l = -1 ∨ ∃ n : Nat, n < l.size ∧ atOf l = n := by
  rcases Lib.lastIndexByte_spec l 32 with ⟨h, _⟩ | ⟨i, hi, h, _⟩
  · exact .inl h
  · exact .inr ⟨i, hi, h⟩
/-- The last line of a text that does not end in a newline is not read, whatever it says. -/
theorem read_last {t : ByteArray} {l : ByteArray} {s : Int} {acc : List Page} (hw : whole t = false) (h : readL (lines t) 0 0 [] = readL [l] acc.length s acc) : readBook t = (acc, (acc.length : Int)) := by
  unfold readBook
  rw [hw, if_neg (by decide), h]
  unfold readL
  split
  · rw [if_neg (by simp)]
  · split
    · rw [show readL [] (acc.length + 1) (nextSum l s) (acc ++ [(parsePage (before l)).1]) = (acc ++ [(parsePage (before l)).1], -1) from rfl, if_pos rfl]
      simp
    · rw [if_neg (by simp)]
/-- A line at which reading stops. -/
theorem read_stop {t : ByteArray} {l : ByteArray} {ls : List ByteArray} {i : Nat} {s : Int} {acc : List Page} (h : readL (lines t) 0 0 [] = readL (l :: ls) i s acc) (hs : (i = 200 ∨ atOf l < 0) ∨ ¬ ((parsePage (before l)).2 = true ∧ after l = num (nextSum l s))) : readBook t = (acc, (i : Int)) := by
  have h' : readL (lines t) 0 0 [] = (acc, (i : Int)) := by
    rw [h]
    unfold readL
    split
    · rfl
    · rename_i h1
      rw [if_neg (hs.resolve_left h1)]
  unfold readBook
  rw [h']
  split
  · rfl
  · rw [if_neg (by simp)]
theorem read_go {l : ByteArray} {ls : List ByteArray} {i : Nat} {s : Int} {acc : List Page} (h1 : ¬ i = 200) (h2 : ¬ atOf l < 0) (h3 : (parsePage (before l)).2 = true) (h4 : after l = num (nextSum l s)) : readL (l :: ls) i s acc = readL ls (i + 1) (nextSum l s) (acc ++ [(parsePage (before l)).1]) := by
  conv => lhs; unfold readL
  rw [if_neg (fun h => h.elim h1 h2), if_pos ⟨h3, h4⟩]
theorem read_end {t : ByteArray} {i : Nat} {s : Int} {acc : List Page} (h : readL (lines t) 0 0 [] = readL [] i s acc) (hw : whole t = true) : readBook t = (acc, -1) := by
  unfold readBook
  rw [if_pos hw, h]; rfl
theorem read_cut {t : ByteArray} {i : Nat} {s : Int} {acc : List Page} (h : readL (lines t) 0 0 [] = readL [] i s acc) (hw : whole t = false) : readBook t = (acc.take (acc.length - 1), (acc.length : Int) - 1) := by
  unfold readBook
  rw [hw, if_neg (by decide), h, show readL [] i s acc = (acc, -1) from rfl, if_pos rfl]
theorem cut_mem' (b : UInt8) : ∀ (l : List UInt8), ∀ k ∈ cut b l, k.length ≤ l.length
  | [], k, h => by
    rw [cut, List.mem_singleton] at h
    rw [h]; exact Nat.le_refl _
  | c :: l, k, h => by
    rw [cut] at h
    split at h
    · rcases List.mem_cons.1 h with h | h
      · rw [h]; simp
      · have := cut_mem' b l k h
        simp; omega
    · rcases List.mem_cons.1 h with h | h
      · rw [h]
        cases hc : cut b l with
        | nil => simp
        | cons a t =>
          have := cut_mem' b l a (by rw [hc]; simp)
          simpa using this
      · have := cut_mem' b l k (List.mem_of_mem_tail h)
        simp; omega
theorem lines_mem {s p : ByteArray} (h : p ∈ lines s) : p.size ≤ s.size := by
  have hp : p ∈ parts s 10 := by
    unfold lines at h
    split at h
    · exact List.dropLast_subset _ h
    · exact h
  obtain ⟨k, hk, rfl⟩ := List.mem_map.1 hp
  have := cut_mem' 10 _ k hk
  rw [Array.length_toList] at this
  rw [bs_size]; exact this
theorem lines_le (s : ByteArray) : (lines s).length ≤ s.size + 1 := by
  have h := parts_le s 10
  unfold lines
  split
  · rw [List.length_dropLast]; omega
  · exact h
theorem lines_pos {s : ByteArray} (h : whole s = false) : lines s ≠ [] := by
  unfold whole at h
  simp only [Bool.or_eq_false_iff, decide_eq_false_iff_not] at h
  unfold lines
  have hp := parts_pos s 10
  split
  · rename_i hl
    intro e
    have h1 : (parts s 10).length = 1 := by
      have := congrArg List.length e
      rw [List.length_dropLast, List.length_nil] at this
      omega
    obtain ⟨x, hx⟩ := List.length_eq_one_iff.1 h1
    rw [hx] at hl
    have hx2 : x = em0 := by simpa using hl
    have hsz : s.data.toList = [] := by
      have hc : (cut 10 s.data.toList).map bs = [em0] := by rw [← hx2]; exact hx
      cases hd : s.data.toList with
      | nil => rfl
      | cons c l =>
        rw [hd] at hc
        unfold cut at hc
        split at hc
        · have := congrArg List.length hc
          simp at this
          exact absurd this (cut_ne _ _)
        · simp only [List.map_cons, List.cons.injEq] at hc
          have := congrArg ByteArray.size hc.1
          rw [bs_size] at this
          exact absurd this (Nat.succ_ne_zero _)
    exact h.1 (by show s.data.size = 0; rw [← Array.length_toList, hsz]; rfl)
  · intro e; rw [e] at hp; simp at hp
theorem whole_byte {s : ByteArray} (h0 : 0 < s.size) : whole s = decide (s[s.size - 1]'(by omega) = 10) := by
  unfold whole
  have h1 : decide (s.size = 0) = false := decide_eq_false (by omega)
  rw [h1, Bool.false_or]
  have hl : s.data.toList = s.data.toList.take (s.size - 1) ++ [s[s.size - 1]'(by omega)] := by
    rw [← take_byte s (s.size - 1) (by omega), show s.size - 1 + 1 = s.data.toList.length by rw [Array.length_toList]; show _ = s.size; omega, List.take_length]
  generalize s[s.size - 1]'(by omega) = b at *
  rw [hl]
  rw [Bool.eq_iff_iff, List.isSuffixOf_iff_suffix, decide_eq_true_eq]
  constructor
  · rintro ⟨k, hk⟩
    have := congrArg List.getLast? hk
    simpa using this.symm
  · rintro rfl
    exact ⟨_, rfl⟩
/-- Where the search for the last blank stands: at place z. -/
def Seek (l : ByteArray) (z : Int) : Prop := (z = -1 ∧ atOf l = -1) ∨ ∃ m : Nat, z = m ∧ m < l.size ∧ atOf l = Lib.lastIdx l 32 (m + 1)
theorem seek_start (l : ByteArray) : Seek l ((l.size : Int) - 1) := by
  by_cases h : l.size = 0
  · refine .inl ⟨by omega, ?_⟩
    unfold atOf Lib.lastIndexByte
    rw [h]; rfl
  · exact .inr ⟨l.size - 1, by omega, by omega, by unfold atOf Lib.lastIndexByte; rw [Nat.sub_add_cancel (by omega)]⟩
theorem byte_bang (l : ByteArray) (m : Nat) (h : m < l.size) : l.data[m]! = l[m]'h := by
  rw [getElem!_pos l.data m h]; rfl
theorem seek_step {l : ByteArray} {m : Nat} (h : m < l.size) (hs : atOf l = Lib.lastIdx l 32 (m + 1)) (hb : ((l[m]'h).toNat : Int) ≠ 32) : Seek l ((m : Int) - 1) := by
  rw [Lib.lastIdx_miss l 32 m (by rw [byte_bang l m h]; exact hb)] at hs
  cases m with
  | zero => exact .inl ⟨by omega, hs⟩
  | succ n => exact .inr ⟨n, by omega, by omega, hs⟩
theorem seek_hit {l : ByteArray} {m : Nat} (h : m < l.size) (hs : atOf l = Lib.lastIdx l 32 (m + 1)) (hb : ((l[m]'h).toNat : Int) = 32) : atOf l = m := by
  rw [hs, Lib.lastIdx_hit l 32 m (by rw [byte_bang l m h]; exact hb)]
end Go.Proofs.YtcchjdmioeocdaaDoor
