/- ReadBook of the program: it answers readBook. No condition. -/
import Derived.Test.YtcchjdmioeocdaaDoorB12
import Derived.Test.YtcchjdmioeocdaaDoorB16
namespace Go.Proofs.YtcchjdmioeocdaaDoor
open Go.RowKit
set_option maxHeartbeats 4000000 in
set_option maxRecDepth 100000 in
theorem impl_ReadBook (t : ByteArray) (ht : t.size ≤ 1048576) (w : World) (he : Env2 w) :
    Calls Tryd.prog 19 #[.string t] w fun e w' => ∃ v, e = .returned (.tuple #[v, .int .i64 (readBook t).2]) ∧ Own 25 pg 5 w.heap.size w' v (readBook t).1 ∧ Below w.heap.size w w' := by
  have HP := Lib.hid (impl_linesOf t (by omega))
  obtain ⟨ls, hls⟩ : ∃ ls, lines t = ls := ⟨_, rfl⟩
  have HM := Lib.hid (show ∀ p ∈ ls, p.size ≤ 1048576 from fun p hp => Nat.le_trans (lines_mem (by rw [hls]; exact hp)) ht)
  have HL := Lib.hid (show ls.length ≤ 1048577 from by rw [← hls]; have := lines_le t; omega)
  have HR := Lib.hid hls
  have HF := Lib.hid (show ∀ w : World, Calls Tryd.prog 37 #[.string t, .string ⟨#[10]⟩] w fun e w' => e = .returned (.bool ([10].isSuffixOf t.data.toList)) ∧ w' = w from fun w => Tryd.strings_HasSuffix t ⟨#[10]⟩ w (by omega))
  have HW := Lib.hid (show whole t = (decide (t.size = 0) || [10].isSuffixOf t.data.toList) from rfl)
  rw [hls] at HP
  clear hls
  go_enter Tryd.func19, Tryd.ntmps19
  go_upto_region 2 with (go_at_call 36; refine (HP.out _ he).mono ?_; rintro e w1 ⟨v, rfl, ho, hb⟩; obtain ⟨A, c, rfl, hc, hm, r⟩ := ho.open st_len; replace r := Lib.hid r; clear ho hc hm; have HE1 := Lib.hid (he.step hb); replace hb := Lib.hid hb)
  go_cut [5] (fun v wx => v = .bool (whole t) ∧ w1 = wx)
  case first =>
    by_cases h0 : t = ⟨#[]⟩
    · have h1 : t.toList.isEmpty = true := by rw [h0, ByteArray.toList_eq]; rfl
      have h2 : whole t = true := by rw [HW.out, h0]; rfl
      clear HF
      go_wp2_with fail
      go_meet
      exact ⟨by first | rw [h2] | trivial, by first | rfl | trivial⟩
    · have h1 := isEmpty_false h0
      have h2 : whole t = [10].isSuffixOf t.data.toList := by
        rw [HW.out, decide_eq_false, Bool.false_or]
        intro e
        exact h0 (ByteArray.ext (Array.eq_empty_of_size_eq_zero e))
      rw [← h2] at HF
      go_wp2_with (go_at_call 37; refine (HF.out _).mono ?_; rintro e w2 ⟨rfl, rfl⟩)
      go_meet
      exact ⟨by first | rfl | rw [h2], by first | rfl | trivial⟩
  case rest =>
    obtain ⟨rfl, rfl⟩ := hcut
    clear HF HW
    go_wp2
    go_loopw [6, 7, 23] (fun v s x wr => ∃ (i : Nat) (sum : Int) (acc : List Page), x = .int .i64 i ∧ s = .int .i64 sum ∧ i ≤ ls.length ∧ acc.length = i ∧ (0 ≤ sum ∧ sum < 1000003) ∧ Own 25 pg 5 w1.heap.size wr v acc ∧ readL ls 0 0 [] = readL (ls.drop i) i sum acc ∧ (whole t = false → i < ls.length) ∧ Below w1.heap.size w1 wr) (fun _ _ x _ => ls.length - (intOf x).toNat)
    case atStart => exact ⟨0, 0, [], rfl, rfl, Nat.zero_le _, rfl, by omega, Own.nil _ _ _ _ _ _, rfl, fun h => by have := List.length_pos_iff.2 (lines_pos h); rwa [HR.out] at this, Below.refl _ _⟩
    case round =>
      obtain ⟨i, sum, acc, rfl, rfl, hi, hlen, hs, ho, hrd, hwl, hb1⟩ := hrel
      have HO := Lib.hid ho
      have HRD := Lib.hid hrd
      have HB := Lib.hid hb1
      have HWL := Lib.hid hwl
      clear ho hrd hwl
      by_cases hlt : i < ls.length
      · have hi9 : (i : Int) ≤ 1048577 := by have := HL.out; omega
        have hl1 : 1 ≤ (ls.length : Int) := by omega
        have hl2 : (ls.length : Int) ≤ 1048577 := by have := HL.out; omega
        obtain ⟨g, o, rfl, k⟩ := (r.out.below hb1).out i (ls[i]'hlt) (List.getElem?_eq_getElem hlt)
        have k0 := k 0 _ rfl
        rw [Nat.mul_one, Nat.add_zero] at k0
        have hmem := HM.out _ (List.getElem_mem hlt)
        have HD := Lib.hid (List.drop_eq_getElem_cons hlt)
        generalize ls[i]'hlt = l at *
        clear k hb1
        by_cases h200 : i = 200
        · have HQ := Lib.hid (read_stop (t := t) (l := l) (ls := ls.drop (i + 1)) (i := i) (s := sum) (acc := acc) (by rw [HR.out, HRD.out, HD.out]) (.inl (.inl h200)))
          have heq : ((i : Int) == 200) = true := by simp; omega
          clear h200
          go_wp2
          go_ret2
          exact ⟨_, ret_book HQ.out, by rw [HQ.out]; exact HO.out.mono hb.out.size, hb.out.trans (HB.out.mono hb.out.size)⟩
        have hne : ((i : Int) == 200) = false := by simp; omega
        by_cases hlast : i = ls.length - 1 ∧ whole t = false
        · have HQ := Lib.hid (read_last (t := t) (l := l) (s := sum) (acc := acc) hlast.2 (by rw [HR.out, HRD.out, HD.out, List.drop_of_length_le (by omega), hlen]))
          have heq : ((i : Int) == (ls.length : Int) - 1) = true := by simp; omega
          rw [hlen] at HQ
          have hw := hlast.2
          have HI := Lib.hid hlast.1
          have hw := hlast.2
          clear hlast
          go_wp2
          go_ret2
          exact ⟨_, ret_book (acc := acc) (HQ.out.trans (by have := HI.out; rw [show (i : Int) = (ls.length : Int) - 1 by omega])), by rw [HQ.out]; exact HO.out.mono hb.out.size, hb.out.trans (HB.out.mono hb.out.size)⟩
        have HWT : Hid (i = ls.length - 1 → whole t = true) := Lib.hid fun h => by
          cases hw : whole t with
          | true => rfl
          | false => exact absurd ⟨h, hw⟩ hlast
        clear hlast
        go_upto_region 8 with fail
        go_cut [40] (fun v wx => v = .bool false ∧ wr = wx)
        case first =>
          by_cases hll : i = ls.length - 1
          · have heq : ((i : Int) == (ls.length : Int) - 1) = true := by simp; omega
            have hw := HWT.out hll
            clear hll
            go_wp2_with fail
            go_meet
            exact ⟨by first | rfl | trivial, by first | rfl | trivial⟩
          · have heq : ((i : Int) == (ls.length : Int) - 1) = false := by simp; omega
            clear hll
            go_wp2_with fail
            go_meet
            exact ⟨by first | rfl | trivial, by first | rfl | trivial⟩
        case rest =>
          obtain ⟨rfl, rfl⟩ := hcut
          have K0 := Lib.hid k0
          have HI := Lib.hid (show ∀ w : World, Calls Tryd.prog 38 #[.string l, .string ⟨#[32]⟩] w fun e w' => e = .returned (.int .i64 (atOf l)) ∧ w' = w from fun w => Tryd.strings_LastIndex_one l ⟨#[32]⟩ rfl (by omega) w)
          rcases at_cases l with ha | ⟨m, hm, ha⟩
          · have HQ := Lib.hid (read_stop (t := t) (l := l) (ls := ls.drop (i + 1)) (i := i) (s := sum) (acc := acc) (by rw [HR.out, HRD.out, HD.out]) (.inl (.inr (by rw [ha]; decide))))
            rw [ha] at HI
            go_wp2_with (go_at_call 38; refine (HI.out _).mono ?_; rintro e w2 ⟨rfl, rfl⟩)
            go_ret2
            exact ⟨_, ret_book HQ.out, by rw [HQ.out]; exact HO.out.mono hb.out.size, hb.out.trans (HB.out.mono hb.out.size)⟩
          · have hm1 : (m : Int) ≤ l.size := by omega
            have hm0 : (0 : Int) ≤ m := by omega
            have hm2 : (m : Int) + 1 ≤ l.size := by omega
            rw [ha] at HI
            have hbf : before l = l.extract 0 m := by unfold before; rw [ha]; rfl
            have haf : after l = l.extract (m + 1) l.size := by unfold after; rw [ha]; rfl
            have hns : nextSum l sum = sumOf (l.extract 0 m ++ ⟨#[32]⟩ ++ num sum) := by unfold nextSum; rw [hbf]
            have z1 : (l.extract 0 m).size ≤ 1048576 := by rw [ByteArray.size_extract]; omega
            have HS := Lib.hid (show I64 sum from by unfold I64; omega)
            have z2 := num_size HS.out
            have z0 : (⟨#[32]⟩ : ByteArray).size ≤ 1 := by decide
            obtain ⟨q1, t1⟩ := cat_ z1 z0 (by omega)
            obtain ⟨q2, t2⟩ := cat_ t1 z2 (by omega)
            have HPP := Lib.hid (impl_ParsePage (l.extract 0 m) z1)
            have hr := sumOf_range (l.extract 0 m ++ ⟨#[32]⟩ ++ num sum)
            have HSU := Lib.hid (impl_SumOf (l.extract 0 m ++ ⟨#[32]⟩ ++ num sum) (by omega))
            have HNU := Lib.hid (impl_number sum HS.out)
            have HST := Lib.hid (fun h => read_stop (t := t) (l := l) (ls := ls.drop (i + 1)) (i := i) (s := sum) (acc := acc) (by rw [HR.out, HRD.out, HD.out]) (.inr h))
            have HGO := Lib.hid (fun h3 h4 => HRD.out.trans ((congrArg (readL · i sum acc) HD.out).trans (read_go (ls := ls.drop (i + 1)) (i := i) (s := sum) (acc := acc) h200 (by rw [ha]; omega) h3 h4)))
            rw [hbf, haf, hns] at HST HGO
            clear hbf haf hns z1 z2 z0 t1 t2 hs HRD HD
            generalize sumOf (l.extract 0 m ++ ⟨#[32]⟩ ++ num sum) = sm at *
            have HNU2 := Lib.hid (impl_number sm (by unfold I64; omega))
            have HE := Lib.hid (HE1.out.step HB.out)
            cases hp : parsePage (l.extract 0 m) with
            | mk p ok =>
              rw [hp] at HPP HST HGO
              obtain ⟨pa, pb, pc, pd, pe⟩ := p
              unfold got pg at HPP
              simp only [] at HPP
              clear hp k0
              go_wp2_with (first
                | (go_at_call 38; refine (HI.out _).mono ?_; rintro e w9 ⟨rfl, rfl⟩)
                | (go_at_call 16; refine (HPP.out _ HE.out).mono ?_; rintro e w2 ⟨rfl, hb2⟩; replace HE := Lib.hid (HE.out.step hb2); replace HO := Lib.hid (HO.out.below hb2); replace HB := Lib.hid (below_of_le HB.out hb2)))
              have hpk := blk_new w2 #[.int .i64 pa, .int .i64 pb, .int .i64 pc, .int .i64 pd, .int .i64 pe] 25
              replace HB := Lib.hid (HB.out.alloc HB.out.size (.cells #[.int .i64 pa, .int .i64 pb, .int .i64 pc, .int .i64 pd, .int .i64 pe] 25))
              replace HO := Lib.hid (HO.out.alloc (.cells #[.int .i64 pa, .int .i64 pb, .int .i64 pc, .int .i64 pd, .int .i64 pe] 25))
              replace HE := Lib.hid (HE.out.alloc (.cells #[.int .i64 pa, .int .i64 pb, .int .i64 pc, .int .i64 pd, .int .i64 pe] 25))
              generalize w2.alloc (.cells #[.int .i64 pa, .int .i64 pb, .int .i64 pc, .int .i64 pd, .int .i64 pe] 25) = wb at *
              have HX := Lib.hid (Below.refl wb.heap.size wb)
              go_region_held3 (fun _ => True) (exact trivial)
                ((first
                  | (go_at_call 27; refine (HNU.out _ (by first | exact (HE.out.step HX.out).env | exact (HE.out.step HX.out).drew.env)).mono ?_; rintro e w3 ⟨rfl, hb3⟩; replace HX := Lib.hid (by first | exact below_of_le HX.out hb3 | exact below_of_le HX.out.drew hb3 : Below wb.heap.size wb w3); clear hb3)
                  | (go_at_call 30; refine (HSU.out _).mono ?_; rintro e w4 ⟨rfl, hb3⟩; replace HX := Lib.hid (by first | exact below_of_le HX.out hb3 | exact below_of_le HX.out.drew hb3 : Below wb.heap.size wb w4); clear hb3)))
              have hF := HX.out
              replace hpk := keep_blk hF hpk
              replace HO := Lib.hid (HO.out.below hF)
              replace HB := Lib.hid (HB.out.trans (hF.mono HB.out.size))
              replace HE := Lib.hid (HE.out.step hF)
              clear HX hF
              have hm3 : (0 : Int) ≤ (m : Int) + 1 := by omega
              have hm4 : IntKind.i64.wrap ((m : Int) + 1) = (m : Int) + 1 := by rw [IntKind.wrap_i64]; omega
              have hm5 : wrap64 ((m : Int) + 1) = (m : Int) + 1 := by unfold wrap64; omega
              cases ok with
              | false =>
                have HQ := Lib.hid (HST.out (fun h => absurd h.1 (by decide)))
                go_wp2
                go_quiet (fail)
                go_wp2
                go_ret2
                exact ⟨_, ret_book HQ.out, by rw [HQ.out]; exact (HO.out.drewN _).mono hb.out.size, below_drewN (hb.out.trans (HB.out.mono hb.out.size)) _⟩
              | true =>
                by_cases hq : l.extract (m + 1) l.size = num sm
                · have HG := Lib.hid (HGO.out rfl hq)
                  have hqq : ((l.extract (m + 1) l.size).toList == (num sm).toList) = true := by rw [beq_str]; exact decide_eq_true hq
                  clear hq HGO HST
                  go_wp2
                  have HX := Lib.hid (Below.refl w4.heap.size w4)
                  go_region_held3 (fun _ => True) (exact trivial)
                    ((first
                      | (go_at_call 27; refine (HNU2.out _ (by first | exact (HE.out.step HX.out).env | exact (HE.out.step HX.out).drew.env)).mono ?_; rintro e w3 ⟨rfl, hb3⟩; replace HX := Lib.hid (by first | exact below_of_le HX.out hb3 | exact below_of_le HX.out.drew hb3 : Below w4.heap.size w4 w3); clear hb3)
                      | (go_at_call 30; refine (HSU.out _).mono ?_; rintro e w4 ⟨rfl, hb3⟩; replace HX := Lib.hid (by first | exact below_of_le HX.out hb3 | exact below_of_le HX.out.drew hb3 : Below w4.heap.size w4 w4); clear hb3)))
                  have hF := HX.out
                  replace hpk := keep_blk hF hpk
                  replace HO := Lib.hid (HO.out.below hF)
                  replace HB := Lib.hid (HB.out.trans (hF.mono HB.out.size))
                  clear HX hF
                  obtain ⟨y0, y1, y2, y3, y4⟩ := blk5 hpk
                  go_wp2_with (at_builtin; refine wp_append pg_len _ w1.heap.size rfl _ _ 32 25 (.agg zc) 40 rfl Tryd.underlying32 (by kernel_rfl) rfl (by decide) (by decide) u6 acc ⟨pa, pb, pc, pd, pe⟩ _ rfl rfl rfl (pg_one _) HO.out (by have := HL.out; omega) HB.out.size ?_; intro v' w' ho hg; replace HB := Lib.hid (hg.below HB.out HB.out.size (fun g h => (HO.out.foot g h).1)); replace ho := Lib.hid ho; clear hg)
                  exact ⟨⟨i + 1, _, _, rfl, rfl, hlt, by rw [List.length_append, hlen]; rfl, hr, ho.out, HG.out, fun h => by
                    rcases Nat.lt_or_ge (i + 1) ls.length with h1 | h1
                    · exact h1
                    · have := HWT.out (by omega)
                      rw [this] at h
                      exact absurd h (by decide), HB.out⟩, by simp only [intOf]; omega⟩
                · have HQ := Lib.hid (HST.out (fun h => hq h.2))
                  have hqq : ((l.extract (m + 1) l.size).toList == (num sm).toList) = false := by rw [beq_str]; exact decide_eq_false hq
                  clear hq HGO HST
                  go_wp2
                  have HX := Lib.hid (Below.refl w4.heap.size w4)
                  go_region_held3 (fun _ => True) (exact trivial)
                    ((first
                      | (go_at_call 27; refine (HNU2.out _ (by first | exact (HE.out.step HX.out).env | exact (HE.out.step HX.out).drew.env)).mono ?_; rintro e w3 ⟨rfl, hb3⟩; replace HX := Lib.hid (by first | exact below_of_le HX.out hb3 | exact below_of_le HX.out.drew hb3 : Below w4.heap.size w4 w3); clear hb3)
                      | (go_at_call 30; refine (HSU.out _).mono ?_; rintro e w4 ⟨rfl, hb3⟩; replace HX := Lib.hid (by first | exact below_of_le HX.out hb3 | exact below_of_le HX.out.drew hb3 : Below w4.heap.size w4 w4); clear hb3)))
                  go_wp2
                  go_ret2
                  exact ⟨_, ret_book HQ.out, by rw [HQ.out]; exact (HO.out.below HX.out).mono hb.out.size, hb.out.trans ((HB.out.trans (HX.out.mono HB.out.size)).mono hb.out.size)⟩
      · obtain rfl : i = ls.length := by omega
        have HE := Lib.hid (show readL (lines t) 0 0 [] = readL [] ls.length sum acc from by rw [HR.out, HRD.out, List.drop_length])
        have hw : whole t = true := by
          cases h : whole t with
          | true => rfl
          | false => exact absurd (HWL.out h) (by omega)
        have HQ := Lib.hid (read_end HE.out hw)
        go_wp2
        go_ret2
        exact ⟨_, ret_book HQ.out, by rw [HQ.out]; exact HO.out.mono hb.out.size, hb.out.trans (HB.out.mono hb.out.size)⟩
end Go.Proofs.YtcchjdmioeocdaaDoor
