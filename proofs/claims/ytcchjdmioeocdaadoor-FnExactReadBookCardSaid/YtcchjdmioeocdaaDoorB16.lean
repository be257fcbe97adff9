/- ReadBook of the reference: it answers readBook. No condition. -/
import Derived.Test.YtcchjdmioeocdaaDoorB11
import Derived.Test.YtcchjdmioeocdaaDoorB15
import Derived.Tactics2
import Derived.BigQuiet
import Derived.Deep.QuietTactic
namespace Go.Proofs.YtcchjdmioeocdaaDoor
open Go.RowKit
theorem Own.drewN {α : Type} {f : α → List Value} {sz : Nat} {e : TypeId} {B : Nat} {w : World} {v : Value} {xs : List α} (h : Own e f sz B w v xs) (n : Nat) : Own e f sz B (w.drewN n) v xs := h.keep fun _ _ => rfl
theorem ret_book {v : Value} {x : Int} {acc : List Page} {r : List Page × Int} (h : r = (acc, x)) : Ending.returned (.tuple #[v, .int .i64 x]) = .returned (.tuple #[v, .int .i64 r.2]) := by rw [h]
set_option maxHeartbeats 4000000 in
set_option maxRecDepth 100000 in
theorem spec_ReadBook (t : ByteArray) (ht : t.size ≤ 1048576) (w : World) :
    Calls Tryd.prog 18 #[.string t] w fun e w' => ∃ v, e = .returned (.tuple #[v, .int .i64 (readBook t).2]) ∧ Own 25 pg 5 w.heap.size w' v (readBook t).1 ∧ Below w.heap.size w w' := by
  have HP := Lib.hid (spec_l02Lines t (by omega))
  obtain ⟨ls, hls⟩ : ∃ ls, lines t = ls := ⟨_, rfl⟩
  have HM := Lib.hid (show ∀ p ∈ ls, p.size ≤ 1048576 from fun p hp => Nat.le_trans (lines_mem (by rw [hls]; exact hp)) ht)
  have HL := Lib.hid (show ls.length ≤ 1048577 from by rw [← hls]; have := lines_le t; omega)
  have HR := Lib.hid hls
  rw [hls] at HP
  clear hls
  go_enter Tryd.func18, Tryd.ntmps18
  go_wp2_with (go_at_call 35; refine (HP.out _).mono ?_; rintro e w1 ⟨v, rfl, ho, hb⟩; obtain ⟨A, c, rfl, hc, hm, r⟩ := ho.open st_len; replace r := Lib.hid r; clear ho hc hm; replace hb := Lib.hid (((Below.refl w.heap.size w).alloc (Nat.le_refl _) _).trans (hb.mono (by simp))))
  go_loopw [4, 5, 7] (fun v s x wr => ∃ (i : Nat) (sum : Int) (acc : List Page), x = .int .i64 i ∧ s = .int .i64 sum ∧ i ≤ ls.length ∧ acc.length = i ∧ (0 ≤ sum ∧ sum < 1000003) ∧ Own 25 pg 5 w1.heap.size wr v acc ∧ readL ls 0 0 [] = readL (ls.drop i) i sum acc ∧ Below w1.heap.size w1 wr) (fun _ _ x _ => ls.length - (intOf x).toNat)
  case atStart => exact ⟨0, 0, [], rfl, rfl, Nat.zero_le _, rfl, by omega, Own.nil _ _ _ _ _ _, rfl, Below.refl _ _⟩
  case round =>
    obtain ⟨i, sum, acc, rfl, rfl, hi, hlen, hs, ho, hrd, hb1⟩ := hrel
    have HO := Lib.hid ho
    have HRD := Lib.hid hrd
    have HB := Lib.hid hb1
    clear ho hrd
    by_cases hlt : i < ls.length
    · have hi9 : (i : Int) ≤ 1048577 := by have := HL.out; omega
      obtain ⟨g, o, rfl, k⟩ := (r.out.below hb1).out i (ls[i]'hlt) (List.getElem?_eq_getElem hlt)
      have k0 := k 0 _ rfl
      rw [Nat.mul_one, Nat.add_zero] at k0
      have hmem := HM.out _ (List.getElem_mem hlt)
      have HD := Lib.hid (List.drop_eq_getElem_cons hlt)
      generalize ls[i]'hlt = l at *
      clear k
      have K0 := Lib.hid k0
      go_wp2
      go_loopw [8] (fun x wq => ∃ z : Int, x = .int .i64 z ∧ Seek l z ∧ wr = wq) (fun x _ => (intOf x + 1).toNat)
      case atStart => exact ⟨_, rfl, seek_start l, rfl⟩
      case round =>
        obtain ⟨z, rfl, hz, rfl⟩ := hrel
        rcases hz with ⟨rfl, hz⟩ | ⟨m, rfl, hm, hz⟩
        · have HQ := Lib.hid (read_stop (t := t) (l := l) (ls := ls.drop (i + 1)) (i := i) (s := sum) (acc := acc) (by rw [HR.out, HRD.out, HD.out]) (.inl (.inr (by rw [hz]; decide))))
          go_wp2
          go_ret2
          exact ⟨_, ret_book HQ.out, by rw [HQ.out]; exact HO.out.mono hb.out.size, hb.out.trans (HB.out.mono hb.out.size)⟩
        · by_cases hbt : ((l[m]'hm).toNat : Int) = 32
          · have ha := seek_hit hm hz hbt
            by_cases h200 : i = 200
            · have HQ := Lib.hid (read_stop (t := t) (l := l) (ls := ls.drop (i + 1)) (i := i) (s := sum) (acc := acc) (by rw [HR.out, HRD.out, HD.out]) (.inl (.inl h200)))
              have heq : ((i : Int) == 200) = true := by simp; omega
              clear h200
              go_wp2
              go_ret2
              exact ⟨_, ret_book HQ.out, by rw [HQ.out]; exact HO.out.mono hb.out.size, hb.out.trans (HB.out.mono hb.out.size)⟩
            · have hm1 : (m : Int) ≤ l.size := by omega
              have hm0 : (0 : Int) ≤ m := by omega
              have hm2 : (m : Int) + 1 ≤ l.size := by omega
              have hne : ((i : Int) == 200) = false := by simp; omega
              have hbf : before l = l.extract 0 m := by unfold before; rw [ha]; rfl
              have haf : after l = l.extract (m + 1) l.size := by unfold after; rw [ha]; rfl
              have hns : nextSum l sum = sumOf (l.extract 0 m ++ ⟨#[32]⟩ ++ num sum) := by unfold nextSum; rw [hbf]
              have z1 : (l.extract 0 m).size ≤ 1048576 := by rw [ByteArray.size_extract]; omega
              have HS := Lib.hid (show I64 sum from by unfold I64; omega)
              have z2 := num_size HS.out
              have z0 : (⟨#[32]⟩ : ByteArray).size ≤ 1 := by decide
              obtain ⟨q1, t1⟩ := cat_ z1 z0 (by omega)
              obtain ⟨q2, t2⟩ := cat_ t1 z2 (by omega)
              have HPP := Lib.hid (spec_ParsePage (l.extract 0 m))
              have hr := sumOf_range (l.extract 0 m ++ ⟨#[32]⟩ ++ num sum)
              have HSU := Lib.hid (spec_SumOf (l.extract 0 m ++ ⟨#[32]⟩ ++ num sum) (by omega))
              have HNU := Lib.hid (spec_l01Num sum HS.out)
              have HST := Lib.hid (fun h => read_stop (t := t) (l := l) (ls := ls.drop (i + 1)) (i := i) (s := sum) (acc := acc) (by rw [HR.out, HRD.out, HD.out]) (.inr h))
              have HGO := Lib.hid (fun h3 h4 => HRD.out.trans ((congrArg (readL · i sum acc) HD.out).trans (read_go (ls := ls.drop (i + 1)) (i := i) (s := sum) (acc := acc) h200 (by rw [ha]; omega) h3 h4)))
              rw [hbf, haf, hns] at HST HGO
              clear hbf haf hns z1 z2 z0 t1 t2 hs HRD HD
              generalize sumOf (l.extract 0 m ++ ⟨#[32]⟩ ++ num sum) = sm at *
              have HNU2 := Lib.hid (spec_l01Num sm (by unfold I64; omega))
              cases hp : parsePage (l.extract 0 m) with
              | mk p ok =>
                rw [hp] at HPP HST HGO
                obtain ⟨pa, pb, pc, pd, pe⟩ := p
                unfold got pg at HPP
                simp only [] at HPP
                clear hp
                go_wp2_with (go_at_call 15; refine (HPP.out _).mono ?_; rintro e w2 ⟨rfl, hb2⟩; replace HO := Lib.hid (HO.out.below hb2); replace HB := Lib.hid (below_of_le HB.out hb2); replace K0 := Lib.hid (keep_cell hb2 K0.out); clear k0)
                have hpk := blk_new w2 #[.int .i64 pa, .int .i64 pb, .int .i64 pc, .int .i64 pd, .int .i64 pe] 25
                have hpg := HB.out.size
                replace HB := Lib.hid (HB.out.alloc HB.out.size (.cells #[.int .i64 pa, .int .i64 pb, .int .i64 pc, .int .i64 pd, .int .i64 pe] 25))
                replace HO := Lib.hid (HO.out.alloc (.cells #[.int .i64 pa, .int .i64 pb, .int .i64 pc, .int .i64 pd, .int .i64 pe] 25))
                replace K0 := Lib.hid (keep_cell ((Below.refl _ _).alloc (Nat.le_refl _) (.cells #[.int .i64 pa, .int .i64 pb, .int .i64 pc, .int .i64 pd, .int .i64 pe] 25)) K0.out)
                generalize w2.alloc (.cells #[.int .i64 pa, .int .i64 pb, .int .i64 pc, .int .i64 pd, .int .i64 pe] 25) = wb at *
                have HX := Lib.hid (Below.refl wb.heap.size wb)
                go_region_held3 (fun w' => w'.cell? ⟨g, o + i, none⟩ = some (.string l))
                  (first | with_reducible exact K0.out | with_reducible exact keep_cell HX.out K0.out | exact K0.out | exact keep_cell HX.out K0.out)
                  ((first
                    | (go_at_call 23; refine (HNU.out _).mono ?_; rintro e w3 ⟨rfl, hb3⟩; replace HX := Lib.hid (by first | exact below_of_le HX.out hb3 | exact below_of_le HX.out.drew hb3 : Below wb.heap.size wb w3); clear hb3)
                    | (go_at_call 29; refine (HSU.out _).mono ?_; rintro e w4 ⟨rfl, hb3⟩; replace HX := Lib.hid (by first | exact below_of_le HX.out hb3 | exact below_of_le HX.out.drew hb3 : Below wb.heap.size wb w4); clear hb3)))
                have hF := HX.out
                replace hpk := keep_blk hF hpk
                replace HO := Lib.hid (HO.out.below hF)
                replace HB := Lib.hid (HB.out.trans (hF.mono HB.out.size))
                replace K0 := Lib.hid (keep_cell hF K0.out)
                clear HX hF
                have hm3 : (0 : Int) ≤ (m : Int) + 1 := by omega
                have hm4 : IntKind.i64.wrap ((m : Int) + 1) = (m : Int) + 1 := by rw [IntKind.wrap_i64]; omega
                have hm5 : wrap64 ((m : Int) + 1) = (m : Int) + 1 := by unfold wrap64; omega
                cases ok with
                | false =>
                  have HQ := Lib.hid (HST.out (fun h => absurd h.1 (by decide)))
                  go_wp2
                  go_quiet (fail)
                  go_wp2
                  go_ret2
                  exact ⟨_, ret_book HQ.out, by rw [HQ.out]; exact (HO.out.drewN _).mono hb.out.size, below_drewN (hb.out.trans (HB.out.mono hb.out.size)) _⟩
                | true =>
                  by_cases hq : l.extract (m + 1) l.size = num sm
                  · have HG := Lib.hid (HGO.out rfl hq)
                    have hqq : ((l.extract (m + 1) l.size).toList == (num sm).toList) = true := by rw [beq_str]; exact decide_eq_true hq
                    clear hq HGO HST
                    go_wp2
                    have HX := Lib.hid (Below.refl w4.heap.size w4)
                    go_region_held3 (fun w' => w'.cell? ⟨g, o + i, none⟩ = some (.string l))
                      (first | with_reducible exact K0.out | with_reducible exact keep_cell HX.out K0.out | exact K0.out | exact keep_cell HX.out K0.out)
                      ((go_at_call 23; refine (HNU2.out _).mono ?_; rintro e w5 ⟨rfl, hb3⟩; replace HX := Lib.hid (by first | exact below_of_le HX.out hb3 | exact below_of_le HX.out.drew hb3 : Below w4.heap.size w4 w5); clear hb3))
                    have hF := HX.out
                    replace hpk := keep_blk hF hpk
                    replace HO := Lib.hid (HO.out.below hF)
                    replace HB := Lib.hid (HB.out.trans (hF.mono HB.out.size))
                    clear HX hF
                    obtain ⟨y0, y1, y2, y3, y4⟩ := blk5 hpk
                    go_wp2_with (at_builtin; refine wp_append pg_len _ w1.heap.size rfl _ _ 32 25 (.agg zc) 40 rfl Tryd.underlying32 (by kernel_rfl) rfl (by decide) (by decide) u4 acc ⟨pa, pb, pc, pd, pe⟩ _ rfl rfl rfl (pg_one _) HO.out (by have := HL.out; omega) HB.out.size ?_; intro v' w' ho hg; replace HB := Lib.hid (hg.below HB.out HB.out.size (fun g h => (HO.out.foot g h).1)); replace ho := Lib.hid ho; clear hg)
                    exact ⟨⟨i + 1, _, _, rfl, rfl, hlt, by rw [List.length_append, hlen]; rfl, hr, ho.out, HG.out, HB.out⟩, by simp only [intOf]; omega⟩
                  · have HQ := Lib.hid (HST.out (fun h => hq h.2))
                    have hqq : ((l.extract (m + 1) l.size).toList == (num sm).toList) = false := by rw [beq_str]; exact decide_eq_false hq
                    clear hq HGO HST
                    go_wp2
                    have HX := Lib.hid (Below.refl w4.heap.size w4)
                    go_region_held3 (fun w' => w'.cell? ⟨g, o + i, none⟩ = some (.string l))
                      (first | with_reducible exact K0.out | with_reducible exact keep_cell HX.out K0.out | exact K0.out | exact keep_cell HX.out K0.out)
                      ((go_at_call 23; refine (HNU2.out _).mono ?_; rintro e w5 ⟨rfl, hb3⟩; replace HX := Lib.hid (by first | exact below_of_le HX.out hb3 | exact below_of_le HX.out.drew hb3 : Below w4.heap.size w4 w5); clear hb3))
                    go_wp2
                    go_ret2
                    exact ⟨_, ret_book HQ.out, by rw [HQ.out]; exact (HO.out.below HX.out).mono hb.out.size, hb.out.trans ((HB.out.trans (HX.out.mono HB.out.size)).mono hb.out.size)⟩
          · have hq := seek_step hm hz hbt
            go_wp2
            exact ⟨⟨_, rfl, hq, trivial⟩, by simp only [intOf]; omega⟩
    · obtain rfl : i = ls.length := by omega
      have HE := Lib.hid (show readL (lines t) 0 0 [] = readL [] ls.length sum acc from by rw [HR.out, HRD.out, List.drop_length])
      cases hw : whole t with
      | true =>
        have HQ := Lib.hid (read_end HE.out hw)
        by_cases h0 : t.size = 0
        · have h0' : (t.size : Int) = 0 := by omega
          go_wp2
          go_ret2
          exact ⟨_, ret_book HQ.out, by rw [HQ.out]; exact HO.out.mono hb.out.size, hb.out.trans (HB.out.mono hb.out.size)⟩
        · have hpos : 0 < t.size := by omega
          rw [whole_byte hpos, decide_eq_true_eq] at hw
          have hw' : ((t[t.size - 1]'(by omega)).toNat : Int) = 10 := by rw [hw]; rfl
          clear hw
          go_wp2
          all_goals (go_ret2; exact ⟨_, ret_book HQ.out, by rw [HQ.out]; exact HO.out.mono hb.out.size, hb.out.trans (HB.out.mono hb.out.size)⟩)
      | false =>
        have HQ := Lib.hid (read_cut HE.out hw)
        have hpos : 0 < t.size := by
          rcases Nat.eq_zero_or_pos t.size with h | h
          · exact absurd hw (by unfold whole; rw [h]; simp)
          · exact h
        have hl0 : 1 ≤ acc.length := by
          rw [hlen, ← HR.out]
          exact List.length_pos_iff.2 (lines_pos hw)
        rw [whole_byte hpos, decide_eq_false_iff_not] at hw
        have hw' : ¬ ((t[t.size - 1]'(by omega)).toNat : Int) = 10 := fun e => hw (UInt8.toNat_inj.1 (by show _ = 10; omega))
        clear hw
        obtain ⟨A2, c2, rfl, hc2, hm2, r2⟩ := HO.out.open pg_len
        clear r2
        have hl1 : 1 ≤ (ls.length : Int) := by omega
        have hl2 : (ls.length : Int) ≤ 1048577 := by have := HL.out; omega
        have hl3 : (ls.length : Int) - 1 ≤ c2 := by omega
        go_wp2
        go_ret2
        exact ⟨_, ret_book (by rw [HQ.out, hlen]), by rw [HQ.out, ← hlen]; exact (Own.take pg_len HO.out (by omega)).mono hb.out.size, hb.out.trans (HB.out.mono hb.out.size)⟩
end Go.Proofs.YtcchjdmioeocdaaDoor
