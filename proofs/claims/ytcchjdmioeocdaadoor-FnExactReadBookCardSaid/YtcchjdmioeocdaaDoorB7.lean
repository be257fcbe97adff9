/- Texts in parts, and numbers as they are read: plain lists of bytes, no program. No condition. -/
import Derived.Test.YtcchjdmioeocdaaDoorB2
import Derived.Lib.Split
import Derived.Lib.CountLaws
import Derived.Lib.AtoiAll
namespace Go.Proofs.YtcchjdmioeocdaaDoor
open Go.RowKit
/-- A row of bytes parted at each b. -/
def cut (b : UInt8) : List UInt8 → List (List UInt8)
  | [] => [[]]
  | c :: l => if c = b then [] :: cut b l else (c :: (cut b l).headD []) :: (cut b l).tail
def bs (l : List UInt8) : ByteArray := ⟨l.toArray⟩
theorem bs_data (s : ByteArray) : bs s.data.toList = s := by
  apply ByteArray.ext
  simp [bs]
theorem bs_list (l : List UInt8) : (bs l).data.toList = l := by simp [bs]
theorem bs_size (l : List UInt8) : (bs l).size = l.length := by simp [bs, ByteArray.size]
theorem bs_inj {k l : List UInt8} (h : bs k = bs l) : k = l := by rw [← bs_list k, h, bs_list]
theorem bs_append (k l : List UInt8) : bs k ++ bs l = bs (k ++ l) := by
  apply ByteArray.ext
  simp [bs]
def parts (s : ByteArray) (b : UInt8) : List ByteArray := (cut b s.data.toList).map bs
theorem cut_ne (b : UInt8) (l : List UInt8) : cut b l ≠ [] := by cases l <;> unfold cut <;> (try split) <;> simp
theorem cut_none (b : UInt8) : ∀ l : List UInt8, b ∉ l → cut b l = [l]
  | [], _ => rfl
  | c :: l, h => by
    have h1 : ¬ c = b := fun e => h (by rw [e]; simp)
    rw [cut, if_neg h1, cut_none b l (fun e => h (by simp [e]))]
    rfl
theorem cut_at (b : UInt8) : ∀ (k l : List UInt8), b ∉ k → cut b (k ++ b :: l) = k :: cut b l
  | [], l, _ => by rw [List.nil_append, cut, if_pos rfl]
  | c :: k, l, h => by
    have h1 : ¬ c = b := fun e => h (by rw [e]; simp)
    rw [List.cons_append, cut, if_neg h1, cut_at b k l (fun e => h (by simp [e]))]
    rfl
theorem cut_length_le (b : UInt8) : ∀ l : List UInt8, (cut b l).length ≤ l.length + 1
  | [] => by simp [cut]
  | c :: l => by
    have := cut_length_le b l
    unfold cut
    split
    · simp; omega
    · simp; omega
theorem nbeq (i : Nat) : ¬ ((i : Int) == -1) = true := by simp
theorem splitK_cut (b : UInt8) : ∀ l : List UInt8, Lib.splitK [b] 0 (Lib.count l [b]) l = cut b l
  | [] => by
    have : Lib.index [] [b] = -1 := rfl
    rw [Lib.count_miss this]
    rfl
  | c :: l => by
    have ih := splitK_cut b l
    by_cases hc : c = b
    · subst hc
      have hi : Lib.index (c :: l) [c] = (0 : Nat) := by unfold Lib.index; simp [List.isPrefixOf]
      rw [Lib.count_hit (by simp) hi, Nat.add_comm, Lib.splitK, if_neg (by rw [hi]; decide), hi]
      simp only [Int.toNat_natCast, Nat.zero_add, List.take_zero, List.length_singleton, List.drop_succ_cons, List.drop_zero]
      rw [ih, cut, if_pos rfl]
    · have hp : ([b].isPrefixOf (c :: l)) = false := by simp [List.isPrefixOf]; exact fun e => hc e.symm
      have hge := Lib.index_ge l [b]
      rw [cut, if_neg hc, ← ih]
      by_cases hm : Lib.index l [b] = -1
      · have hm2 : Lib.index (c :: l) [b] = -1 := by rw [Lib.index, if_neg (by rw [hp]; simp), if_pos (by rw [hm]; rfl)]
        rw [Lib.count_miss hm, Lib.count_miss hm2]
        rfl
      · obtain ⟨i, hi⟩ : ∃ i : Nat, Lib.index l [b] = i := ⟨(Lib.index l [b]).toNat, by omega⟩
        have hi2 : Lib.index (c :: l) [b] = ((i + 1 : Nat) : Int) := by rw [Lib.index, if_neg (by rw [hp]; simp), if_neg (by rw [hi]; exact nbeq i), hi]; rfl
        rw [Lib.count_hit (by simp) hi, Lib.count_hit (by simp) hi2, Nat.add_comm 1, Nat.add_comm 1, Lib.splitK, Lib.splitK, if_neg (by rw [hi2]; exact nbeq _), if_neg (by rw [hi]; exact nbeq i), hi2, hi]
        simp only [Int.toNat_natCast, Nat.add_zero, List.length_singleton, List.take_succ_cons, List.drop_succ_cons]
        rfl
theorem split_parts (s : ByteArray) (b : UInt8) : Lib.splitB ⟨#[b]⟩ 0 (Lib.countB s ⟨#[b]⟩) s = parts s b := by
  have h := Lib.splitB_data ⟨#[b]⟩ 0 (Lib.countB s ⟨#[b]⟩) s
  have h2 : Lib.splitK [b] 0 (Lib.countB s ⟨#[b]⟩) s.data.toList = cut b s.data.toList := splitK_cut b _
  unfold parts
  rw [← h2]
  have h3 : (⟨#[b]⟩ : ByteArray).data.toList = [b] := rfl
  rw [h3] at h
  rw [← h, List.map_map]
  have : (bs ∘ fun x : ByteArray => x.data.toList) = id := by funext x; exact bs_data x
  rw [this, List.map_id]
theorem split_len (s : ByteArray) (b : UInt8) : Lib.countB s ⟨#[b]⟩ + 1 = (parts s b).length := by
  have key : ∀ l : List UInt8, Lib.count l [b] + 1 = (cut b l).length := by
    intro l
    induction l with
    | nil => rfl
    | cons c l ih =>
      by_cases hc : c = b
      · subst hc
        have hi : Lib.index (c :: l) [c] = (0 : Nat) := by unfold Lib.index; simp [List.isPrefixOf]
        rw [Lib.count_hit (by simp) hi, cut, if_pos rfl]
        show 1 + Lib.count l [c] + 1 = (cut c l).length + 1
        omega
      · have hp : ([b].isPrefixOf (c :: l)) = false := by simp [List.isPrefixOf]; exact fun e => hc e.symm
        have hge := Lib.index_ge l [b]
        have hl : 1 ≤ (cut b l).length := by have := cut_ne b l; cases h : cut b l with | nil => exact absurd h this | cons _ _ => simp
        rw [cut, if_neg hc, List.length_cons, List.length_tail, show (cut b l).length - 1 + 1 = (cut b l).length by omega, ← ih]
        by_cases hm : Lib.index l [b] = -1
        · have hm2 : Lib.index (c :: l) [b] = -1 := by rw [Lib.index, if_neg (by rw [hp]; simp), if_pos (by rw [hm]; rfl)]
          rw [Lib.count_miss hm, Lib.count_miss hm2]
        · obtain ⟨i, hi⟩ : ∃ i : Nat, Lib.index l [b] = i := ⟨(Lib.index l [b]).toNat, by omega⟩
          have hi2 : Lib.index (c :: l) [b] = ((i + 1 : Nat) : Int) := by rw [Lib.index, if_neg (by rw [hp]; simp), if_neg (by rw [hi]; exact nbeq i), hi]; rfl
          rw [Lib.count_hit (by simp) hi, Lib.count_hit (by simp) hi2]
          rfl
  have h := key s.data.toList
  unfold parts
  rw [List.length_map, ← h]
/-! Numbers. -/
theorem dig_byte {u : Nat} (h : u < 10) : (UInt8.ofNat (48 + u)).toNat = 48 + u := by
  rw [UInt8.toNat_ofNat']; omega
theorem dig_mem (u : Nat) : ∀ c ∈ Lib.decDigits u, 48 ≤ c.toNat ∧ c.toNat ≤ 57 := by
  induction u using Nat.strongRecOn with
  | _ u ih =>
    intro c hc
    rw [Lib.decDigits] at hc
    split at hc
    · rename_i h
      rw [List.mem_singleton] at hc
      rw [hc, dig_byte h]
      omega
    · rename_i h
      rcases List.mem_append.1 hc with h1 | h1
      · exact ih (u / 10) (by omega) c h1
      · rw [List.mem_singleton] at h1
        rw [h1, dig_byte (by omega)]
        omega
theorem dig_ne (u : Nat) : Lib.decDigits u ≠ [] := by
  rw [Lib.decDigits]
  split <;> simp
theorem num_list (n : Int) : (num n).data.toList = Lib.itoa n := bs_list _
theorem itoa_mem (n : Int) : ∀ c ∈ Lib.itoa n, c = 45 ∨ (48 ≤ c.toNat ∧ c.toNat ≤ 57) := by
  intro c hc
  unfold Lib.itoa at hc
  split at hc
  · rcases List.mem_cons.1 hc with h | h
    · exact .inl h
    · exact .inr (dig_mem _ c h)
  · exact .inr (dig_mem _ c hc)
theorem parse_dig (u : Nat) (hu : u < 18446744073709551616) : ∀ r, Lib.parseUint10 0 (Lib.decDigits u ++ r) = Lib.parseUint10 u r := by
  induction u using Nat.strongRecOn with
  | _ u ih =>
    intro r
    rw [Lib.decDigits]
    split
    · rename_i h
      rw [List.singleton_append, Lib.parseUint10, dig_byte h, if_pos (by omega), if_neg (by omega), if_neg (by omega)]
      congr 1
      omega
    · rename_i h
      rw [List.append_assoc, ih (u / 10) (by omega) (by omega), List.singleton_append, Lib.parseUint10, dig_byte (by omega), if_pos (by omega), if_neg (by omega), if_neg (by omega)]
      congr 1
      omega
theorem parse_mag (u : Nat) (hu : u < 18446744073709551616) : Lib.parseMag (Lib.decDigits u) = .ok u := by
  unfold Lib.parseMag
  rw [if_neg (dig_ne u)]
  have := parse_dig u hu []
  rw [List.append_nil] at this
  rw [this]
  rfl
theorem atoi_itoa (n : Int) (hn : I64 n) : Lib.atoiAll (Lib.itoa n) = .ok n := by
  obtain ⟨h1, h2⟩ := hn
  unfold Lib.itoa
  split
  · rename_i h
    unfold Lib.atoiAll
    simp only
    rw [if_pos (show (45 : UInt8).toNat = 43 ∨ (45 : UInt8).toNat = 45 from .inr rfl), parse_mag n.natAbs (by omega)]
    simp only
    rw [if_neg (fun h2 => h2.1 rfl), if_neg (fun h2 => by omega), if_pos (show (45 : UInt8).toNat = 45 from rfl)]
    exact congrArg Lib.NumEnd.ok (by omega)
  · rename_i h
    have hp := parse_mag n.toNat (by omega)
    have hm := dig_mem n.toNat
    cases hd : Lib.decDigits n.toNat with
    | nil => exact absurd hd (dig_ne _)
    | cons c r =>
      rw [hd] at hp hm
      have hc := hm c (by simp)
      unfold Lib.atoiAll
      simp only
      rw [if_neg (by omega), hp]
      simp only
      rw [if_neg (by omega), if_neg (by omega), if_neg (by omega)]
      congr 1
      omega
def atoi (w : ByteArray) : Int := match Lib.atoiAll w.data.toList with | .ok v => v | _ => 0
theorem atoi_num {n : Int} (hn : I64 n) : atoi (num n) = n := by
  unfold atoi
  rw [num_list, atoi_itoa n hn]
def isDig (c : UInt8) : Bool := decide (48 ≤ c.toNat) && decide (c.toNat ≤ 57)
def val (a : Int) (l : List UInt8) : Int := l.foldl (fun a c => 10 * a + (c.toNat : Int) - 48) a
theorem val_append (a : Int) (k l : List UInt8) : val a (k ++ l) = val (val a k) l := List.foldl_append
theorem val_dig (u : Nat) : val 0 (Lib.decDigits u) = u := by
  induction u using Nat.strongRecOn with
  | _ u ih =>
    rw [Lib.decDigits]
    split
    · rename_i h
      show 10 * (0 : Int) + ((UInt8.ofNat (48 + u)).toNat : Int) - 48 = u
      rw [dig_byte h]; omega
    · rename_i h
      rw [val_append, ih (u / 10) (by omega)]
      show 10 * ((u / 10 : Nat) : Int) + ((UInt8.ofNat (48 + u % 10)).toNat : Int) - 48 = u
      rw [dig_byte (by omega)]; omega
theorem val_range : ∀ (l : List UInt8) (a : Int) (k : Nat), (∀ c ∈ l, isDig c = true) → 0 ≤ a → a < 10 ^ k → 0 ≤ val a l ∧ val a l < 10 ^ (k + l.length)
  | [], a, k, _, h0, h1 => ⟨h0, h1⟩
  | c :: l, a, k, hl, h0, h1 => by
    have hc := hl c (by simp)
    simp only [isDig, Bool.and_eq_true, decide_eq_true_eq] at hc
    have hp : (10 : Int) ^ (k + 1) = 10 * 10 ^ k := by rw [Int.pow_succ]; omega
    have := val_range l (10 * a + (c.toNat : Int) - 48) (k + 1) (fun d hd => hl d (by simp [hd])) (by omega) (by rw [hp]; omega)
    rw [List.length_cons, show k + (l.length + 1) = k + 1 + l.length by omega]
    exact this
def neg (l : List UInt8) : Bool := l.head? == some 45
def digs (l : List UInt8) : List UInt8 := if neg l = true then l.tail else l
def readNum (w : ByteArray) : Int × Bool :=
  if 1 ≤ (digs w.data.toList).length ∧ (digs w.data.toList).length ≤ 10 ∧ (digs w.data.toList).all isDig = true then
    (if neg w.data.toList = true then - val 0 (digs w.data.toList) else val 0 (digs w.data.toList), decide (num (if neg w.data.toList = true then - val 0 (digs w.data.toList) else val 0 (digs w.data.toList)) = w))
  else (0, false)
theorem read_num {n : Int} (h0 : -10000000000 < n) (h1 : n < 10000000000) : readNum (num n) = (n, true) := by
  have hlen : (Lib.decDigits n.natAbs).length ≤ 10 := len_digits n.natAbs 9 (by omega)
  have hall : (Lib.decDigits n.natAbs).all isDig = true := by
    rw [List.all_eq_true]
    intro c hc
    have := dig_mem _ c hc
    simp [isDig, this]
  have hpos : 1 ≤ (Lib.decDigits n.natAbs).length := by cases h : Lib.decDigits n.natAbs with | nil => exact absurd h (dig_ne _) | cons _ _ => simp
  have hd : digs (Lib.itoa n) = Lib.decDigits n.natAbs ∧ neg (Lib.itoa n) = decide (n < 0) := by
    unfold Lib.itoa
    by_cases hn : n < 0
    · rw [if_pos hn]
      exact ⟨rfl, by simp [neg, hn]⟩
    · rw [if_neg hn, show n.toNat = n.natAbs by omega]
      have hneg : neg (Lib.decDigits n.natAbs) = false := by
        cases h : Lib.decDigits n.natAbs with
        | nil => rfl
        | cons c r =>
          have := dig_mem n.natAbs c (by rw [h]; simp)
          have hc : ¬ c = 45 := fun e => by rw [e] at this; exact absurd this.1 (by decide)
          simp [neg, hc]
      exact ⟨by unfold digs; rw [hneg]; rfl, by rw [hneg]; simp [hn]⟩
  unfold readNum
  rw [num_list, hd.1, hd.2, if_pos ⟨hpos, hlen, hall⟩, val_dig]
  have hx : (if decide (n < 0) = true then -((n.natAbs : Nat) : Int) else ((n.natAbs : Nat) : Int)) = n := by
    by_cases hn : n < 0
    · rw [if_pos (by simpa using hn)]; omega
    · rw [if_neg (by simpa using hn)]; omega
  rw [hx]
  simp
theorem read_ok {w : ByteArray} {x : Int} (h : readNum w = (x, true)) : num x = w := by
  unfold readNum at h
  split at h
  · injection h with h1 h2
    rw [← h1]
    simpa using h2
  · cases h
theorem read_I64 (w : ByteArray) : -10000000000 < (readNum w).1 ∧ (readNum w).1 < 10000000000 := by
  unfold readNum
  split
  · rename_i h
    obtain ⟨h1, h2, h3⟩ := h
    have hv := val_range (digs w.data.toList) 0 0 (fun c hc => List.all_eq_true.1 h3 c hc) (by omega) (by decide)
    have hle : (10 : Int) ^ (0 + (digs w.data.toList).length) ≤ 10 ^ 10 := by
      have : (10 : Nat) ^ (0 + (digs w.data.toList).length) ≤ 10 ^ 10 := Nat.pow_le_pow_right (by omega) (by omega)
      exact_mod_cast this
    simp only
    split <;> omega
  · simp
end Go.Proofs.YtcchjdmioeocdaaDoor
