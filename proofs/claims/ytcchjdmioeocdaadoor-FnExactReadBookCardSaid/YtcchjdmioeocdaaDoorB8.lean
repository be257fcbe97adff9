/- Texts in parts and lines, and numbers read, by the reference. No condition. -/
import Derived.Test.YtcchjdmioeocdaaDoorB7
import Derived.Test.YtcchjdmioeocdaaDoorR1
namespace Go.Proofs.YtcchjdmioeocdaaDoor
open Go.RowKit
def st (s : ByteArray) : List Value := [.string s]
theorem st_len (s : ByteArray) : (st s).length = 1 := rfl
theorem st_one (s : ByteArray) : ∀ u ∈ st s, u.oneCell' = true := by
  intro u hu
  rw [st, List.mem_singleton] at hu
  rw [hu]; rfl
/-- Where the parting stands: at a's part, behind it out. -/
theorem cut_step {b : UInt8} {l : List UInt8} {a i : Nat} (hai : a ≤ i) (hno : ∀ j, a ≤ j → j < i → l[j]? ≠ some b) (hi : l[i]? = some b) : cut b (l.drop a) = (l.take i).drop a :: cut b (l.drop (i + 1)) := by
  have hlt := (List.getElem?_eq_some_iff.1 hi).1
  have h1 : l.drop a = (l.take i).drop a ++ b :: l.drop (i + 1) := by
    have h2 : l.drop i = b :: l.drop (i + 1) := by
      rw [List.drop_eq_getElem_cons hlt, (List.getElem?_eq_some_iff.1 hi).2]
    have h3 : l.drop a = (l.drop a).take (i - a) ++ l.drop i := by
      conv => lhs; rw [← List.take_append_drop (i - a) (l.drop a), List.drop_drop, show a + (i - a) = i by omega]
    rw [List.drop_take, ← h2]
    exact h3
  conv => lhs; rw [h1]
  refine cut_at b _ _ (fun hm => ?_)
  obtain ⟨k, hk⟩ := List.mem_iff_getElem?.1 hm
  rw [List.getElem?_drop, List.getElem?_take] at hk
  split at hk
  · exact hno (a + k) (by omega) (by assumption) hk
  · cases hk
theorem cut_end {b : UInt8} {l : List UInt8} {a : Nat} (hno : ∀ j, a ≤ j → j < l.length → l[j]? ≠ some b) : cut b (l.drop a) = [l.drop a] := by
  refine cut_none b _ (fun hm => ?_)
  obtain ⟨k, hk⟩ := List.mem_iff_getElem?.1 hm
  rw [List.getElem?_drop] at hk
  exact hno (a + k) (by omega) (List.getElem?_eq_some_iff.1 hk).1 hk
theorem extract_bs (s : ByteArray) (a i : Nat) : s.extract a i = bs ((s.data.toList.take i).drop a) := by
  rw [← bs_data (s.extract a i)]
  refine congrArg bs ?_
  rw [ByteArray.data_extract, Array.toList_extract, List.extract_eq_take_drop, List.drop_take]
set_option maxRecDepth 100000 in
theorem spec_l01Parts (s : ByteArray) (b : UInt8) (hs : s.size ≤ 4294967280) (w : World) :
    Calls Tryd.prog 31 #[.string s, .int .u8 b.toNat] w fun e w' => ∃ v, e = .returned v ∧ Own 9 st 1 w.heap.size w' v (parts s b) ∧ Below w.heap.size w w' := by
  go_enter Tryd.func31, Tryd.ntmps31
  go_wp2
  go_loopw [5, 6, 7] (fun v x y wr => ∃ (out : List ByteArray) (a i : Nat), x = .int .i64 a ∧ y = .int .i64 i ∧ Own 9 st 1 w.heap.size wr v out ∧ out.length ≤ i ∧ Below w.heap.size w wr ∧ ((i ≤ s.size ∧ a ≤ i ∧ (∀ j, a ≤ j → j < i → s.data.toList[j]? ≠ some b) ∧ parts s b = out ++ (cut b (s.data.toList.drop a)).map bs) ∨ (i = s.size + 1 ∧ parts s b = out))) (fun _ _ y _ => s.size + 1 - (intOf y).toNat)
  case atStart => exact ⟨[], 0, 0, rfl, rfl, Own.nil _ _ _ _ _ _, Nat.le_refl _, (Below.refl _ _).alloc (Nat.le_refl _) _, .inl ⟨Nat.zero_le _, Nat.le_refl _, fun j _ h => by omega, rfl⟩⟩
  case round =>
    obtain ⟨out, a, i, rfl, rfl, ho, hol, hb, hrel⟩ := hrel
    rcases hrel with ⟨hi, hai, hno, hp⟩ | ⟨rfl, hp⟩
    · rcases Nat.lt_or_ge i s.size with hlt | hge
      · have hl : s.data.toList[i]? = some s[i] := by
          rw [List.getElem?_eq_getElem (by rw [Array.length_toList]; exact hlt), Array.getElem_toList]
          rfl
        by_cases hbi : s[i] = b
        · have hP2 := Lib.hid (show parts s b = (out ++ [s.extract a i]) ++ (cut b (s.data.toList.drop (i + 1))).map bs from by
            rw [hp, cut_step hai hno (by rw [hl, hbi]), List.map_cons, extract_bs, List.append_assoc]; rfl)
          have hx : (((s[i].toNat : Nat) : Int) == ((b.toNat : Nat) : Int)) = true := by rw [hbi]; simp
          have hne : ((i : Int) == (s.size : Int)) = false := by rw [beq_eq_false_iff_ne]; omega
          have HO := Lib.hid ho
          clear ho hp hno hbi hl
          go_wp2_with (at_builtin; refine wp_append st_len _ w.heap.size rfl _ _ 47 9 (.string ⟨#[]⟩) 16 rfl Tryd.underlying47 (by kernel_rfl) rfl (by decide) (by decide) u5 out (s.extract a i) _ rfl rfl rfl (st_one _) HO.out (by omega) hb.size ?_; intro v' w' ho hg; replace hb := hg.below hb hb.size (fun g h => (HO.out.foot g h).1); replace ho := Lib.hid ho; clear hg)
          exact ⟨⟨_, i + 1, i + 1, rfl, rfl, ho.out, by simp; omega, hb, .inl ⟨hlt, Nat.le_refl _, fun j h1 h2 => by omega, hP2.out⟩⟩, by simp only [intOf]; omega⟩
        · have hno' := Lib.hid (show ∀ j, a ≤ j → j < i + 1 → s.data.toList[j]? ≠ some b from fun j h1 h2 => by
            rcases Nat.lt_or_ge j i with h3 | h3
            · exact hno j h1 h3
            · obtain rfl : j = i := by omega
              rw [hl]; exact fun e => hbi (Option.some.inj e))
          have HP := Lib.hid hp
          have hx : (((s[i].toNat : Nat) : Int) == ((b.toNat : Nat) : Int)) = false := by
            rw [beq_eq_false_iff_ne]
            exact fun e => hbi (UInt8.toNat_inj.1 (by omega))
          have hne : ((i : Int) == (s.size : Int)) = false := by rw [beq_eq_false_iff_ne]; omega
          have HO := Lib.hid ho
          clear ho hp hno hbi hl
          go_wp2
          exact ⟨⟨out, a, i + 1, rfl, rfl, HO.out, by omega, hb, .inl ⟨hlt, by omega, hno'.out, HP.out⟩⟩, by simp only [intOf]; omega⟩
      · obtain rfl : i = s.size := by omega
        have hP2 := Lib.hid (show parts s b = out ++ [s.extract a s.size] from by
          rw [hp, cut_end (fun j h1 h2 => hno j h1 (by rwa [Array.length_toList] at h2)), extract_bs, List.take_of_length_le (by rw [Array.length_toList]; exact Nat.le_refl _)]; rfl)
        have hne : ((s.size : Int) == (s.size : Int)) = true := by simp
        have HO := Lib.hid ho
        clear ho hp hno
        go_wp2_with (at_builtin; refine wp_append st_len _ w.heap.size rfl _ _ 47 9 (.string ⟨#[]⟩) 16 rfl Tryd.underlying47 (by kernel_rfl) rfl (by decide) (by decide) u5 out (s.extract a s.size) _ rfl rfl rfl (st_one _) HO.out (by omega) hb.size ?_; intro v' w' ho hg; replace hb := hg.below hb hb.size (fun g h => (HO.out.foot g h).1); replace ho := Lib.hid ho; clear hg)
        exact ⟨⟨_, s.size + 1, s.size + 1, rfl, rfl, ho.out, by simp; omega, hb, .inr ⟨rfl, hP2.out⟩⟩, by simp only [intOf]; omega⟩
    · have HO := Lib.hid ho
      have HP := Lib.hid hp
      clear ho hp
      go_wp2
      go_ret
      exact ⟨_, rfl, by rw [HP.out]; exact HO.out, hb⟩
end Go.Proofs.YtcchjdmioeocdaaDoor
