/- ParsePage of the reference: it answers parsePage. No condition. -/
import Derived.Test.YtcchjdmioeocdaaDoorB9
import Derived.Test.YtcchjdmioeocdaaDoorB4
namespace Go.Proofs.YtcchjdmioeocdaaDoor
open Go.RowKit
def condUpTo (w : ByteArray) (k : Nat) : Int := (List.range k).foldl (fun (a : Int) (c : Nat) => if condName (c : Int) = w then (c : Int) else a) 0
def pz : Page := ⟨0, 0, 0, 0, 0⟩
/-- The page that a line's words may be. -/
def pageIn (ws : List ByteArray) : Page := ⟨atoi (ws.getD 0 em0), atoi (ws.getD 1 em0), atoi (ws.getD 2 em0), atoi (ws.getD 3 em0), condUpTo (ws.getD 4 em0) 6⟩
def parsePage (line : ByteArray) : Page × Bool :=
  if (parts line 32).length = 5 ∧ pageOk (pageIn (parts line 32)) = true ∧ pageLine (pageIn (parts line 32)) = line then (pageIn (parts line 32), true) else (pz, false)
theorem no_blank (n : Int) : (32 : UInt8) ∉ Lib.itoa n := by
  intro h
  rcases itoa_mem n 32 h with h | h
  · exact absurd h (by decide)
  · exact absurd h.1 (by decide)
theorem cond_cases {p : Page} (h : pageOk p = true) : p.cond = 1 ∨ p.cond = 2 ∨ p.cond = 3 ∨ p.cond = 4 ∨ p.cond = 5 := by
  simp only [pageOk, inB, Bool.and_eq_true, decide_eq_true_eq] at h
  omega
theorem line_bytes {p : Page} (h : pageOk p = true) : pageLine p = bs (Lib.itoa p.at_ ++ 32 :: (Lib.itoa p.count ++ 32 :: (Lib.itoa p.law ++ 32 :: (Lib.itoa p.next ++ 32 :: (condName p.cond).data.toList)))) := by
  unfold pageLine
  rw [if_pos h]
  have hc : condName p.cond = bs (condName p.cond).data.toList := (bs_data _).symm
  generalize (condName p.cond).data.toList = c at *
  rw [hc]
  show bs _ ++ bs [32] ++ bs _ ++ bs [32] ++ bs _ ++ bs [32] ++ bs _ ++ bs [32] ++ bs c = _
  simp only [bs_append, List.append_assoc, List.cons_append, List.nil_append]
theorem line_parts {p : Page} (h : pageOk p = true) : parts (pageLine p) 32 = [num p.at_, num p.count, num p.law, num p.next, condName p.cond] := by
  have hc : (32 : UInt8) ∉ (condName p.cond).data.toList := by
    rcases cond_cases h with e | e | e | e | e <;> rw [e] <;> decide
  unfold parts
  rw [line_bytes h, bs_list, cut_at _ _ _ (no_blank _), cut_at _ _ _ (no_blank _), cut_at _ _ _ (no_blank _), cut_at _ _ _ (no_blank _), cut_none _ _ hc]
  simp only [List.map_cons, List.map_nil, bs_data]
  rfl
theorem condUpTo_name {c : Int} (h : c = 1 ∨ c = 2 ∨ c = 3 ∨ c = 4 ∨ c = 5) : condUpTo (condName c) 6 = c := by
  rcases h with e | e | e | e | e <;> rw [e] <;> decide
theorem pageIn_line {p : Page} (h : pageOk p = true) : pageIn (parts (pageLine p) 32) = p := by
  obtain ⟨i1, i2, i3, i4⟩ := pageOk_I64 h
  rw [line_parts h]
  unfold pageIn
  simp only [List.getD_cons_zero, List.getD_cons_succ]
  rw [atoi_num i1, atoi_num i2, atoi_num i3, atoi_num i4, condUpTo_name (cond_cases h)]
theorem parse_yes {p : Page} {line : ByteArray} (h : pageOk p = true) (hl : pageLine p = line) : parsePage line = (p, true) := by
  unfold parsePage
  have hp : pageIn (parts line 32) = p := by rw [← hl]; exact pageIn_line h
  rw [if_pos ⟨by rw [← hl, line_parts h]; rfl, by rw [hp]; exact h, by rw [hp]; exact hl⟩, hp]
theorem parse_no {line : ByteArray} (h : ∀ p, pageOk p = true → pageLine p ≠ line) : parsePage line = (pz, false) := by
  unfold parsePage
  rw [if_neg]
  rintro ⟨_, h1, h2⟩
  exact h _ h1 h2
theorem line_size {p : Page} (h : pageOk p = true) : (pageLine p).size ≤ 50 := by
  have z : ∀ (n : Int) (k : Nat), n.natAbs < 10 ^ (k + 1) → (Lib.itoa n).length ≤ k + 2 := by
    intro n k hk
    have := len_digits n.natAbs k hk
    unfold Lib.itoa
    split
    · simp; omega
    · rw [show n.toNat = n.natAbs by omega]; omega
  have h' := h
  simp only [pageOk, inB, Bool.and_eq_true, decide_eq_true_eq] at h'
  have z1 := z p.at_ 9 (by omega)
  have z2 := z p.count 3 (by omega)
  have z3 := z p.law 3 (by omega)
  have z4 := z p.next 3 (by omega)
  have z5 := condName_size p.cond
  have z6 : (condName p.cond).data.toList.length = (condName p.cond).size := Array.length_toList
  rw [line_bytes h, bs_size]
  simp only [List.length_append, List.length_cons]
  omega
theorem line_ne {p : Page} {line : ByteArray} (hw : (parts line 32).length = 5) (hl : pageLine p = line) : pageOk p = true := by
  cases h : pageOk p with
  | true => rfl
  | false =>
    unfold pageLine at hl
    rw [h, if_neg (by decide)] at hl
    rw [← hl] at hw
    exact absurd hw (by decide)
/-- What four numbers read and five kinds tried say. -/
theorem parse_tried {line : ByteArray} {ws : List ByteArray} (hws : parts line 32 = ws) (h : ∀ c : Int, 1 ≤ c → c ≤ 5 → pageLine ⟨(readNum (ws.getD 0 em0)).1, (readNum (ws.getD 1 em0)).1, (readNum (ws.getD 2 em0)).1, (readNum (ws.getD 3 em0)).1, c⟩ ≠ line) : parsePage line = (pz, false) := by
  refine parse_no fun p hp hl => ?_
  have hc := cond_cases hp
  refine h p.cond (by omega) (by omega) ?_
  have h' := hp
  simp only [pageOk, inB, Bool.and_eq_true, decide_eq_true_eq] at h'
  rw [← hws, ← hl, line_parts hp]
  simp only [List.getD_cons_zero, List.getD_cons_succ]
  rw [read_num (n := p.at_) (by omega) (by omega), read_num (n := p.count) (by omega) (by omega), read_num (n := p.law) (by omega) (by omega), read_num (n := p.next) (by omega) (by omega)]
theorem parse_unread {line : ByteArray} {ws : List ByteArray} (hws : parts line 32 = ws) (i : Nat) (hi : i < 4) (h : (readNum (ws.getD i em0)).2 = false) : parsePage line = (pz, false) := by
  refine parse_no fun p hp hl => ?_
  have h' := hp
  simp only [pageOk, inB, Bool.and_eq_true, decide_eq_true_eq] at h'
  rw [← hws, ← hl, line_parts hp] at h
  rcases (show i = 0 ∨ i = 1 ∨ i = 2 ∨ i = 3 by omega) with e | e | e | e <;> subst e <;> simp only [List.getD_cons_zero, List.getD_cons_succ] at h
  · rw [read_num (n := p.at_) (by omega) (by omega)] at h; cases h
  · rw [read_num (n := p.count) (by omega) (by omega)] at h; cases h
  · rw [read_num (n := p.law) (by omega) (by omega)] at h; cases h
  · rw [read_num (n := p.next) (by omega) (by omega)] at h; cases h
theorem parse_short {line : ByteArray} (h : (parts line 32).length ≠ 5) : parsePage line = (pz, false) := by
  unfold parsePage
  rw [if_neg (fun e => h e.1)]
theorem parse_long {line : ByteArray} (h : 50 < line.size) : parsePage line = (pz, false) :=
  parse_no fun p hp hl => by have := line_size hp; rw [hl] at this; omega
end Go.Proofs.YtcchjdmioeocdaaDoor
