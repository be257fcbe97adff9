/- try -/
import Derived.Test.YtcchjdmioeocdaaDoorB1
namespace Go.Proofs.YtcchjdmioeocdaaDoor
open Go.RowKit
structure Page where
  at_ : Int
  count : Int
  law : Int
  next : Int
  cond : Int
def Page.cells (p : Page) : Array Value := #[.int .i64 p.at_, .int .i64 p.count, .int .i64 p.law, .int .i64 p.next, .int .i64 p.cond]
def pageOk (p : Page) : Bool :=
  inB p.at_ 0 1000000000 && inB p.count 0 1000 && inB p.next 0 1000 && inB p.law (-1) 1000 && inB p.cond 1 5 &&
  ((p.cond == 4 || p.cond == 5) == (p.next != p.count)) && ((p.cond == 1 || p.cond == 2) == (p.law == -1))
set_option maxRecDepth 100000 in
theorem spec_PageOk (p : Page) (w : World) : Calls Tryd.prog 22 #[.agg p.cells] w fun e w' => e = .returned (.bool (pageOk p)) ∧ Below w.heap.size w w' := by
  obtain ⟨a, b, c, d, e⟩ := p
  unfold Page.cells pageOk
  go_enter Tryd.func22, Tryd.ntmps22
  go_wp2_with (first
    | (go_at_call 39; refine (spec_l02Tick _ _).mono ?_; rintro e w' ⟨rfl, rfl⟩)
    | (go_at_call 40; refine (spec_l05Count _ _).mono ?_; rintro e w' ⟨rfl, rfl⟩)
    | (go_at_call 41; refine (spec_l01In _ _ _ _).mono ?_; rintro e w' ⟨rfl, rfl⟩))
  all_goals (go_ret; refine ⟨ret_bool ?_, (Below.refl _ _).alloc (Nat.le_refl _) _⟩; simp_all)
set_option maxHeartbeats 2000000 in
set_option maxRecDepth 100000 in
theorem impl_PageOk (p : Page) (w : World) : Calls Tryd.prog 25 #[.agg p.cells] w fun e w' => e = .returned (.bool (pageOk p)) ∧ Below w.heap.size w w' := by
  obtain ⟨a, b, c, d, e⟩ := p
  unfold Page.cells pageOk
  have hc : inB c (-1) 1000 = (decide (c = -1) || inB c 0 1000) := by unfold inB; rw [Bool.eq_iff_iff]; simp; omega
  rw [hc]
  clear hc
  go_enter Tryd.func25, Tryd.ntmps25
  go_wp2_with (first
    | (go_at_call 42; refine (impl_isTick _ _).mono ?_; rintro e w' ⟨rfl, rfl⟩)
    | (go_at_call 43; refine (impl_isCount _ _).mono ?_; rintro e w' ⟨rfl, rfl⟩)
    | (go_at_call 44; refine (impl_in _ _ _ _).mono ?_; rintro e w' ⟨rfl, rfl⟩))
  all_goals (go_ret; refine ⟨ret_bool ?_, (Below.refl _ _).alloc (Nat.le_refl _) _⟩; simp_all)
def condName (c : Int) : ByteArray :=
  if c = 0 then ⟨#[110, 111, 110, 101]⟩ else if c = 1 then ⟨#[111, 102, 102]⟩ else if c = 2 then ⟨#[98, 108, 105, 110, 100]⟩ else if c = 3 then ⟨#[115, 116, 101, 97, 100, 121]⟩ else if c = 4 then ⟨#[109, 111, 118, 101, 100]⟩ else if c = 5 then ⟨#[102, 97, 117, 108, 116]⟩ else ⟨#[]⟩
set_option maxRecDepth 100000 in
theorem spec_CondName (c : Int) (w : World) : Calls Tryd.prog 24 #[.int .i64 c] w fun e w' => e = .returned (.string (condName c)) ∧ Below w.heap.size w w' := by
  by_cases h : 0 ≤ c ∧ c ≤ 5
  · have hb : inB c 0 5 = true := by unfold inB; simp [h]
    have hc : c = 0 ∨ c = 1 ∨ c = 2 ∨ c = 3 ∨ c = 4 ∨ c = 5 := by omega
    clear h
    rcases hc with rfl | rfl | rfl | rfl | rfl | rfl
    all_goals
      go_enter Tryd.func24, Tryd.ntmps24
      go_wp2_with (go_at_call 41; refine (spec_l01In _ _ _ _).mono ?_; rintro e w' ⟨rfl, rfl⟩)
      go_ret
      exact ⟨ret_str rfl, (Below.refl _ _).alloc (Nat.le_refl _) _⟩
  · have hb : inB c 0 5 = false := by unfold inB; rw [Bool.and_eq_false_iff]; simp; omega
    go_enter Tryd.func24, Tryd.ntmps24
    go_wp2_with (go_at_call 41; refine (spec_l01In _ _ _ _).mono ?_; rintro e w' ⟨rfl, rfl⟩)
    go_ret
    exact ⟨ret_str (by unfold condName; rw [if_neg (by omega), if_neg (by omega), if_neg (by omega), if_neg (by omega), if_neg (by omega), if_neg (by omega)]), (Below.refl _ _).alloc (Nat.le_refl _) _⟩
set_option maxRecDepth 100000 in
theorem impl_CondName (c : Int) (w : World) : Calls Tryd.prog 28 #[.int .i64 c] w fun e w' => e = .returned (.string (condName c)) ∧ Below w.heap.size w w' := by
  by_cases h : 0 ≤ c ∧ c ≤ 5
  · have hb : inB c 0 5 = true := by unfold inB; simp [h]
    have hc : c = 0 ∨ c = 1 ∨ c = 2 ∨ c = 3 ∨ c = 4 ∨ c = 5 := by omega
    clear h
    rcases hc with rfl | rfl | rfl | rfl | rfl | rfl
    all_goals
      go_enter Tryd.func28, Tryd.ntmps28
      go_wp2_with (go_at_call 44; refine (impl_in _ _ _ _).mono ?_; rintro e w' ⟨rfl, rfl⟩)
      go_ret
      exact ⟨ret_str rfl, (Below.refl _ _).alloc (Nat.le_refl _) _⟩
  · have hb : inB c 0 5 = false := by unfold inB; rw [Bool.and_eq_false_iff]; simp; omega
    go_enter Tryd.func28, Tryd.ntmps28
    go_wp2_with (go_at_call 44; refine (impl_in _ _ _ _).mono ?_; rintro e w' ⟨rfl, rfl⟩)
    go_ret
    exact ⟨ret_str (by unfold condName; rw [if_neg (by omega), if_neg (by omega), if_neg (by omega), if_neg (by omega), if_neg (by omega), if_neg (by omega)]), (Below.refl _ _)⟩
def joined (xs : List ByteArray) : ByteArray := ⟨(Lib.join (xs.map (·.data.toList)) [32]).toArray⟩
theorem impl_words (b c : Nat) (xs : List ByteArray) (w : World) (hcells : ∀ (j : Nat) x, xs[j]? = some x → w.cell? ⟨b, 0 + j, none⟩ = some (.string x)) (hb : b < w.heap.size) (hN : xs.length ≤ 140737488355328) (hcap : xs.length ≤ c) (hlen : (joined xs).size ≤ 140737488355328) :
    Calls Tryd.prog 26 #[.slice (some ⟨b, 0, none⟩) xs.length c] w fun e w' => e = .returned (.string (joined xs)) ∧ Below w.heap.size w w' := by
  have HC := Lib.hid hcells
  clear hcells
  go_enter Tryd.func26, Tryd.ntmps26
  go_wp2_with (go_at_call 45; refine (Tryd.strings_Join b 0 c xs ⟨#[32]⟩ _ HC.out hb hN hcap (by simpa [joined, ByteArray.size] using hlen)).mono ?_; rintro e w' ⟨rfl, hw⟩)
  go_ret
  exact ⟨rfl, hw⟩
def sp : ByteArray := ⟨#[32]⟩
def pageLine (p : Page) : ByteArray := if pageOk p = true then num p.at_ ++ sp ++ num p.count ++ sp ++ num p.law ++ sp ++ num p.next ++ sp ++ condName p.cond else ⟨#[]⟩
theorem pageOk_I64 {p : Page} (h : pageOk p = true) : I64 p.at_ ∧ I64 p.count ∧ I64 p.law ∧ I64 p.next := by
  unfold pageOk inB at h
  simp only [Bool.and_eq_true, decide_eq_true_eq] at h
  unfold I64
  omega
theorem num_size {n : Int} (h : I64 n) : (num n).size ≤ 21 := by
  obtain ⟨h1, h2⟩ := h
  have e : (num n).size = (Lib.itoa n).length := by simp [num, ByteArray.size]
  rw [e]
  unfold Lib.itoa
  split
  · have := len_digits20 n.natAbs (by omega); simp; omega
  · have := len_digits20 n.toNat (by omega); omega
theorem condName_size (c : Int) : (condName c).size ≤ 6 := by
  unfold condName
  repeat' split
  all_goals decide
set_option maxRecDepth 100000 in
theorem spec_PageLine (p : Page) (w : World) : Calls Tryd.prog 7 #[.agg p.cells] w fun e w' => e = .returned (.string (pageLine p)) ∧ Below w.heap.size w w' := by
  obtain ⟨a, b, c, d, e⟩ := p
  by_cases hok : pageOk ⟨a, b, c, d, e⟩ = true
  · obtain ⟨i1, i2, i3, i4⟩ := pageOk_I64 hok
    have z1 := num_size i1
    have z2 := num_size i2
    have z3 := num_size i3
    have z4 := num_size i4
    have z5 := condName_size e
    have HI1 := Lib.hid i1; have HI2 := Lib.hid i2; have HI3 := Lib.hid i3; have HI4 := Lib.hid i4
    clear i1 i2 i3 i4
    simp only at z1 z2 z3 z4
    have z0 : (⟨#[32]⟩ : ByteArray).size ≤ 1 := by decide
    obtain ⟨c1, t1⟩ := cat_ z1 z0 (by omega)
    obtain ⟨c2, t2⟩ := cat_ t1 z2 (by omega)
    obtain ⟨c3, t3⟩ := cat_ t2 z0 (by omega)
    obtain ⟨c4, t4⟩ := cat_ t3 z3 (by omega)
    obtain ⟨c5, t5⟩ := cat_ t4 z0 (by omega)
    obtain ⟨c6, t6⟩ := cat_ t5 z4 (by omega)
    obtain ⟨c7, t7⟩ := cat_ t6 z0 (by omega)
    obtain ⟨c8, t8⟩ := cat_ t7 z5 (by omega)
    clear t1 t2 t3 t4 t5 t6 t7 t8 z0 z1 z2 z3 z4 z5
    unfold Page.cells
    go_enter Tryd.func7, Tryd.ntmps7
    go_wp2_with (go_at_call 22; refine ((spec_PageOk ⟨a, b, c, d, e⟩ _).mono ?_); rintro e w1 ⟨rfl, hb1⟩; obtain ⟨hc1, hf1⟩ := bcell hb1; have hz1 : w.heap.size + 1 ≤ w1.heap.size := (by have := hb1.size; simpa using this); have hB : Below w.heap.size w w1 := below_of_le ((Below.refl _ _).alloc (Nat.le_refl _) _) hb1)
    go_region_held3 (fun w' => w'.cell? ⟨w.heap.size, 0, none⟩ = some (.int .i64 a) ∧ w'.cell? ⟨w.heap.size, 1, none⟩ = some (.int .i64 b) ∧ w'.cell? ⟨w.heap.size, 2, none⟩ = some (.int .i64 c) ∧ w'.cell? ⟨w.heap.size, 3, none⟩ = some (.int .i64 d) ∧ w'.cell? ⟨w.heap.size, 4, none⟩ = some (.int .i64 e))
      (first | go_keep | exact (And.imp (keep_cell hb2) (And.imp (keep_cell hb2) (And.imp (keep_cell hb2) (And.imp (keep_cell hb2) (keep_cell hb2))))) (by assumption))
      ((first
        | (go_at_call 23; refine (spec_l01Num _ (by assumption) _).mono ?_; rintro e w2 ⟨rfl, hb2⟩; replace hB := (by first | exact below_of_le hB hb2 | exact below_of_le hB.drew hb2))
        | (go_at_call 24; refine (spec_CondName _ _).mono ?_; rintro e w2 ⟨rfl, hb2⟩; replace hB := (by first | exact below_of_le hB hb2 | exact below_of_le hB.drew hb2))))
    go_wp2
    go_ret
    exact ⟨ret_str (by unfold pageLine; rw [if_pos hok]; rfl), hB⟩
  · rw [Bool.not_eq_true] at hok
    unfold Page.cells
    go_enter Tryd.func7, Tryd.ntmps7
    go_wp2_with (go_at_call 22; refine ((spec_PageOk ⟨a, b, c, d, e⟩ _).mono ?_); rintro e w1 ⟨rfl, hb1⟩; have hB : Below w.heap.size w w1 := below_of_le ((Below.refl _ _).alloc (Nat.le_refl _) _) hb1)
    go_ret
    exact ⟨ret_str (by unfold pageLine; rw [hok]; rfl), hB⟩
theorem lit_cells (xs : List ByteArray) (W : World) (t : TypeId) : ∀ (j : Nat) x, xs[j]? = some x → (W.alloc (.cells (xs.map Value.string).toArray t)).cell? ⟨W.heap.size, 0 + j, none⟩ = some (.string x) := fun j x h => by
  have hj := (List.getElem?_eq_some_iff.1 h).1
  simp [h]
/-- The call of words over the texts that were just laid side by side. -/
theorem impl_words_lit (xs : List ByteArray) (W : World) (t : TypeId) (n : Nat) (hn : xs.length = n) (hN : n ≤ 140737488355328) (hlen : (joined xs).size ≤ 140737488355328) :
    Calls Tryd.prog 26 #[.slice (some ⟨W.heap.size, 0, none⟩) n n] (W.alloc (.cells (xs.map Value.string).toArray t)) fun e w' => e = .returned (.string (joined xs)) ∧ Below (W.alloc (.cells (xs.map Value.string).toArray t)).heap.size (W.alloc (.cells (xs.map Value.string).toArray t)) w' := by
  subst hn
  exact impl_words _ _ xs _ (lit_cells xs W t) (by simp) hN (Nat.le_refl _) hlen
theorem joined_five (x1 x2 x3 x4 x5 : ByteArray) : joined [x1, x2, x3, x4, x5] = x1 ++ ⟨#[32]⟩ ++ x2 ++ ⟨#[32]⟩ ++ x3 ++ ⟨#[32]⟩ ++ x4 ++ ⟨#[32]⟩ ++ x5 := by
  unfold joined Lib.join
  apply ByteArray.ext
  simp [List.intercalate]
set_option maxRecDepth 100000 in
theorem impl_PageLine (p : Page) (w : World) (he : Env w) : Calls Tryd.prog 9 #[.agg p.cells] w fun e w' => e = .returned (.string (pageLine p)) ∧ Below w.heap.size w w' := by
  obtain ⟨a, b, c, d, e⟩ := p
  by_cases hok : pageOk ⟨a, b, c, d, e⟩ = true
  · obtain ⟨i1, i2, i3, i4⟩ := pageOk_I64 hok
    have z1 := num_size i1
    have z2 := num_size i2
    have z3 := num_size i3
    have z4 := num_size i4
    have z5 := condName_size e
    have HI1 := Lib.hid i1; have HI2 := Lib.hid i2; have HI3 := Lib.hid i3; have HI4 := Lib.hid i4
    clear i1 i2 i3 i4
    simp only at z1 z2 z3 z4
    have HJ := Lib.hid (joined_five (num a) (num b) (num c) (num d) (condName e))
    have HL : (joined [num a, num b, num c, num d, condName e]).size ≤ 140737488355328 := by
      rw [HJ.out]; simp only [ByteArray.size_append]
      have : (⟨#[32]⟩ : ByteArray).size = 1 := by decide
      omega
    have HLH := Lib.hid HL
    clear z1 z2 z3 z4 z5 HL
    unfold Page.cells
    go_enter Tryd.func9, Tryd.ntmps9
    go_wp2_with (go_at_call 25; refine ((impl_PageOk ⟨a, b, c, d, e⟩ _).mono ?_); rintro e w1 ⟨rfl, hb1⟩; obtain ⟨hc1, hf1⟩ := bcell hb1; have hz1 : w.heap.size + 1 ≤ w1.heap.size := (by have := hb1.size; simpa using this); have hB : Below w.heap.size w w1 := below_of_le ((Below.refl _ _).alloc (Nat.le_refl _) _) hb1; have hE := (he.below hB he.size).drew)
    go_region_held3 (fun w' => w'.cell? ⟨w.heap.size, 0, none⟩ = some (.int .i64 a) ∧ w'.cell? ⟨w.heap.size, 1, none⟩ = some (.int .i64 b) ∧ w'.cell? ⟨w.heap.size, 2, none⟩ = some (.int .i64 c) ∧ w'.cell? ⟨w.heap.size, 3, none⟩ = some (.int .i64 d) ∧ w'.cell? ⟨w.heap.size, 4, none⟩ = some (.int .i64 e))
      (first | go_keep | exact (And.imp (keep_cell hb2) (And.imp (keep_cell hb2) (And.imp (keep_cell hb2) (And.imp (keep_cell hb2) (keep_cell hb2))))) (by assumption))
      ((first
        | (go_at_call 27; refine (impl_number _ (by assumption) _ hE).mono ?_; rintro e w2 ⟨rfl, hb2⟩; replace hE := hE.step hb2; replace hB := (by first | exact below_of_le hB hb2 | exact below_of_le hB.drew hb2))
        | (go_at_call 28; refine (impl_CondName _ _).mono ?_; rintro e w2 ⟨rfl, hb2⟩; replace hE := hE.step hb2; replace hB := (by first | exact below_of_le hB hb2 | exact below_of_le hB.drew hb2))
        | (go_at_call 26; refine (impl_words_lit [num a, num b, num c, num d, condName e] _ _ 5 rfl (by omega) HLH.out).mono ?_; rintro e w2 ⟨rfl, hb2⟩; replace hB := below_of_le (hB.alloc hB.size _) hb2)))
    go_wp2
    go_ret
    exact ⟨ret_str (by unfold pageLine; rw [if_pos hok]; exact HJ.out), hB⟩
  · rw [Bool.not_eq_true] at hok
    unfold Page.cells
    go_enter Tryd.func9, Tryd.ntmps9
    go_wp2_with (go_at_call 25; refine ((impl_PageOk ⟨a, b, c, d, e⟩ _).mono ?_); rintro e w1 ⟨rfl, hb1⟩; have hB : Below w.heap.size w w1 := below_of_le ((Below.refl _ _).alloc (Nat.le_refl _) _) hb1)
    go_ret
    exact ⟨ret_str (by unfold pageLine; rw [hok]; rfl), hB⟩
end Go.Proofs.YtcchjdmioeocdaaDoor
