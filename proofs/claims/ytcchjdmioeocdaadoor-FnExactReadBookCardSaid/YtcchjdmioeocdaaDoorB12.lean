/- ParsePage of the program: it answers parsePage. No condition. -/
import Derived.Test.YtcchjdmioeocdaaDoorB11
import Derived.Tactics2
import Derived.Deep.DeepCutAuto
namespace Go.Proofs.YtcchjdmioeocdaaDoor
open Go.RowKit
theorem condUpTo_succ (w : ByteArray) (k : Nat) : condUpTo w (k + 1) = if condName (k : Int) = w then (k : Int) else condUpTo w k := by
  unfold condUpTo
  rw [List.range_succ, List.foldl_append]
  rfl
theorem Env2.alloc {w : World} (h : Env2 w) (o : Obj) : Env2 (w.alloc o) := h.below ((Below.refl 8 w).alloc h.env.size o) (Nat.le_refl _)
theorem five {ws : List ByteArray} (h : ws.length = 5) : ∃ d0 d1 d2 d3 d4, ws = [d0, d1, d2, d3, d4] := by
  match ws, h with
  | [a, b, c, d, e], _ => exact ⟨a, b, c, d, e, rfl⟩
theorem cell_far {w : World} {g i k j : Nat} {u : Value} (h : k ≠ g) : (w.setCell ⟨g, i, none⟩ u).cell? ⟨k, j, none⟩ = w.cell? ⟨k, j, none⟩ := by
  have := setCells_far [u] i (w := w) k h
  simp only [World.setCells] at this
  simp only [World.cell?, this]
theorem blk_far {w : World} {g i k : Nat} {u : Value} {cells : Array Value} {t : TypeId} (h : k ≠ g) (hb : Blk k cells t w) : Blk k cells t (w.setCell ⟨g, i, none⟩ u) := by
  have := setCells_far [u] i (w := w) k h
  simp only [World.setCells] at this
  exact ⟨this.trans hb.out⟩
theorem put_five {w : World} {g : Nat} {t : TypeId} {c0 c1 c2 c3 c4 : Value} (v : Value) (h : Blk g #[c0, c1, c2, c3, c4] t w) : Blk g #[c0, c1, c2, c3, v] t (w.setCell ⟨g, 4, none⟩ v) :=
  ⟨blk_set h.out 4 v⟩
theorem setCell_below {B g i : Nat} {u : Value} {w0 w : World} (h : Below B w0 w) (hg : B ≤ g) : Below B w0 (w.setCell ⟨g, i, none⟩ u) := setCells_below h i [u] hg
set_option maxHeartbeats 60000000 in
set_option maxRecDepth 100000 in
theorem impl_ParsePage (line : ByteArray) (hs : line.size ≤ 1048576) (w : World) (he : Env2 w) : Calls Tryd.prog 16 #[.string line] w fun e w' => e = .returned (got (parsePage line)) ∧ Below w.heap.size w w' := by
  have HP := Lib.hid (impl_split line 5 (by omega))
  obtain ⟨ws, hws⟩ : ∃ ws, parts line 32 = ws := ⟨_, rfl⟩
  have HM := Lib.hid (show ∀ p ∈ ws, p.size ≤ 1048576 from fun p hp => Nat.le_trans (parts_mem (by rw [hws]; exact hp)) hs)
  have hpp : parsePage line = if ws.length = 5 ∧ pageOk (pageIn ws) = true ∧ pageLine (pageIn ws) = line then (pageIn ws, true) else (pz, false) := by unfold parsePage; rw [hws]
  have HPP := Lib.hid hpp
  clear hpp
  rw [hws] at HP
  clear hws
  have hea := (he.below ((Below.refl w.heap.size w).alloc (Nat.le_refl _) (.cells zc 25)) he.env.size)
  by_cases h5 : ws.length = 5
  · obtain ⟨d0, d1, d2, d3, d4, rfl⟩ := five h5
    have s0 : d0.size ≤ 281474976710656 := Nat.le_trans (HM.out d0 (by simp)) (by omega)
    have s1 : d1.size ≤ 281474976710656 := Nat.le_trans (HM.out d1 (by simp)) (by omega)
    have s2 : d2.size ≤ 281474976710656 := Nat.le_trans (HM.out d2 (by simp)) (by omega)
    have s3 : d3.size ≤ 281474976710656 := Nat.le_trans (HM.out d3 (by simp)) (by omega)
    clear HM h5
    replace HPP := Lib.hid (show parsePage line = if pageOk ⟨atoi d0, atoi d1, atoi d2, atoi d3, condUpTo d4 6⟩ = true ∧ pageLine ⟨atoi d0, atoi d1, atoi d2, atoi d3, condUpTo d4 6⟩ = line then (⟨atoi d0, atoi d1, atoi d2, atoi d3, condUpTo d4 6⟩, true) else (pz, false) from by
      rw [HPP.out]
      by_cases h : pageOk (pageIn [d0, d1, d2, d3, d4]) = true ∧ pageLine (pageIn [d0, d1, d2, d3, d4]) = line
      · rw [if_pos ⟨rfl, h⟩]; exact (if_pos h).symm
      · rw [if_neg (fun h' => h h'.2)]; exact (if_neg h).symm)
    go_enter Tryd.func16, Tryd.ntmps16
    have C0 := Lib.hid (impl_atoi d0 s0); have C1 := Lib.hid (impl_atoi d1 s1); have C2 := Lib.hid (impl_atoi d2 s2); have C3 := Lib.hid (impl_atoi d3 s3)
    generalize atoi d0 = x0 at *
    generalize atoi d1 = x1 at *
    generalize atoi d2 = x2 at *
    generalize atoi d3 = x3 at *
    go_upto_region 4 with (go_at_call 33; refine (HP.out _ hea).mono ?_; rintro e w1 ⟨v, rfl, ho, hb⟩; obtain ⟨A, c, rfl, hc, hm, r⟩ := ho.open st_len; obtain ⟨g2, o2, rfl, -⟩ := r.out 0 d0 rfl; have a0 := r.at_ 0 d0 rfl 0 _ rfl; have a1 := r.at_ 1 d1 rfl 0 _ rfl; have a2 := r.at_ 2 d2 rfl 0 _ rfl; have a3 := r.at_ 3 d3 rfl 0 _ rfl; have a4 := r.at_ 4 d4 rfl 0 _ rfl; simp only [Nat.mul_one, Nat.add_zero] at a0 a1 a2 a3 a4; clear r ho; have hk1 := keep_blk hb (blk_new w zc 25); have hE0 := hea.step hb; have hE := hE0.drew; replace hb := ((Below.refl w.heap.size w).alloc (Nat.le_refl _) _).trans (hb.mono (by simp)); have hB := Below.refl w1.heap.size w1)
    go_cut [6] (fun s6 wx => ∃ g : Nat, s6 = .pointer (some ⟨g, 0, none⟩) ∧ w1.heap.size ≤ g ∧ Blk g #[.int .i64 x0, .int .i64 x1, .int .i64 x2, .int .i64 x3, .int .i64 0] 25 wx ∧ Below w1.heap.size w1 wx)
    case first =>
      have A0 := Lib.hid a0; have A1 := Lib.hid a1; have A2 := Lib.hid a2; have A3 := Lib.hid a3
      have HB := Lib.hid hB; have HE := Lib.hid hE
      clear a0 a1 a2 a3 a4 HPP hk1 hb hea he hc hm hB hE hE0 s0 s1 s2 s3 hs
      go_region_held3 (fun w' => w'.cell? ⟨g2, o2, none⟩ = some (.string d0) ∧ w'.cell? ⟨g2, o2 + 1, none⟩ = some (.string d1) ∧ w'.cell? ⟨g2, o2 + 2, none⟩ = some (.string d2) ∧ w'.cell? ⟨g2, o2 + 3, none⟩ = some (.string d3))
        (first | (with_reducible exact ⟨keep_cell HB.out A0.out, keep_cell HB.out A1.out, keep_cell HB.out A2.out, keep_cell HB.out A3.out⟩) | (have hX := setCells_below HB.out 0 [.int .i64 x0, .int .i64 x1, .int .i64 x2, .int .i64 x3, .int .i64 0] HN.out; simp only [World.setCells, Nat.zero_add, Nat.reduceAdd] at hX; with_reducible exact ⟨keep_cell hX A0.out, keep_cell hX A1.out, keep_cell hX A2.out, keep_cell hX A3.out⟩) | (with_reducible exact ⟨keep_cell (HB.out.alloc HB.out.size _) A0.out, keep_cell (HB.out.alloc HB.out.size _) A1.out, keep_cell (HB.out.alloc HB.out.size _) A2.out, keep_cell (HB.out.alloc HB.out.size _) A3.out⟩) | exact ⟨keep_cell ((HB.out.alloc HB.out.size _).drew) A0.out, keep_cell ((HB.out.alloc HB.out.size _).drew) A1.out, keep_cell ((HB.out.alloc HB.out.size _).drew) A2.out, keep_cell ((HB.out.alloc HB.out.size _).drew) A3.out⟩ | exact ⟨A0.out, A1.out, A2.out, A3.out⟩)
        ((first
          | (go_at_call 34; (first | with_reducible refine (C0.out _ HE.out).mono ?_ | with_reducible refine (C1.out _ HE.out).mono ?_ | with_reducible refine (C2.out _ HE.out).mono ?_ | with_reducible refine (C3.out _ HE.out).mono ?_); rintro e w2 ⟨rfl, hb2⟩; replace HE := Lib.hid (HE.out.step hb2); replace HB := Lib.hid (by first | exact below_of_le HB.out hb2 | exact below_of_le HB.out.drew hb2 : Below w1.heap.size w1 w2); (try (clear y0 y1 y2 y3 y4 f1; replace HK := Lib.hid (keep_blk hb2 HK.out); obtain ⟨y0, y1, y2, y3, y4⟩ := blk5 HK.out; have f1 := HK.out.frozen)); clear hb2)
          | (go_at_call 34; (first | with_reducible refine (C0.out _ (HE.out.alloc _)).mono ?_ | with_reducible refine (C1.out _ (HE.out.alloc _)).mono ?_ | with_reducible refine (C2.out _ (HE.out.alloc _)).mono ?_ | with_reducible refine (C3.out _ (HE.out.alloc _)).mono ?_); rintro e w2 ⟨rfl, hb2⟩; have HK := Lib.hid (keep_blk hb2 (blk_new _ zc 25)); have HN := Lib.hid HB.out.size; replace HE := Lib.hid ((HE.out.alloc _).step hb2); replace HB := Lib.hid (below_of_le (HB.out.alloc HB.out.size _) hb2); obtain ⟨y0, y1, y2, y3, y4⟩ := blk5 HK.out; have f1 := HK.out.frozen; clear hb2)
          | (go_at_call 34; have HE3 := Lib.hid (show Env2 (World.alloc w1 (.cells zc 25)).drew from HE.out.alloc _); (first | with_reducible refine (C0.out _ HE3.out).mono ?_ | with_reducible refine (C1.out _ HE3.out).mono ?_ | with_reducible refine (C2.out _ HE3.out).mono ?_ | with_reducible refine (C3.out _ HE3.out).mono ?_); rintro e w2 ⟨rfl, hb2⟩; have HK := Lib.hid (keep_blk hb2 (show Blk w1.heap.size zc 25 (w1.alloc _).drew from ⟨(blk_new w1 zc 25).out⟩)); have HN := Lib.hid HB.out.size; replace HE := Lib.hid (HE3.out.step hb2); replace HB := Lib.hid (below_of_le (HB.out.alloc HB.out.size _).drew hb2); clear HE3; obtain ⟨y0, y1, y2, y3, y4⟩ := blk5 HK.out; have f1 := HK.out.frozen; clear hb2)))
      all_goals (go_wp2_with fail; go_meet)
      all_goals first
        | exact ⟨_, rfl, HB.out.size, ⟨(blk_new _ _ _).out⟩, HB.out.alloc HB.out.size _⟩
        | exact ⟨_, rfl, HN.out, put5 (.int .i64 x0) (.int .i64 x1) (.int .i64 x2) (.int .i64 x3) (.int .i64 0) HK.out, setCells_below HB.out 0 [_, _, _, _, _] HN.out⟩
    case rest =>
      obtain ⟨g6, rfl, hg6, hk6, hbx⟩ := hcut
      clear C0 C1 C2 C3 s0 s1 s2 s3 HP hea hB
      replace hB := Lib.hid (hb.trans (hbx.mono hb.size))
      replace hE := hE0.step hbx
      clear hE0
      have hk10 := hk1
      replace hk1 := keep_blk hbx hk1
      replace a4 := keep_cell hbx a4
      have hne1 : g2 ≠ g6 := by
        have := World.block_lt_of_cell? w1 _ (show w1.cell? _ = some _ from a0)
        simp only at this
        omega
      have hne2 : w.heap.size ≠ g6 := by
        have := hb.size
        have := hk10.lt
        omega
      replace hg6 : w.heap.size ≤ g6 := Nat.le_trans hb.size hg6
      clear a0 a1 a2 a3 hbx hb hk10
      go_wp2
      go_loopw [7] (fun x wr => ∃ k : Nat, x = .int .i64 k ∧ k ≤ 6 ∧ Blk g6 #[.int .i64 x0, .int .i64 x1, .int .i64 x2, .int .i64 x3, .int .i64 (condUpTo d4 k)] 25 wr ∧ g6 < wr.heap.size ∧ Below w.heap.size w wr ∧ wr.cell? ⟨g2, o2 + 4, none⟩ = some (.string d4) ∧ Blk w.heap.size zc 25 wr ∧ Env2 wr) (fun x _ => 6 - (intOf x).toNat)
      case atStart => exact ⟨0, rfl, by omega, hk6, hk6.lt, hB.out, a4, hk1, hE⟩
      case round =>
        obtain ⟨k, rfl, hk0, hkb, hsz, hbr, a4, hk1, hE⟩ := hrel
        have HB := Lib.hid hbr
        by_cases hlt : k < 6
        · have HC := Lib.hid (impl_CondName (k : Int))
          have HS := Lib.hid (condUpTo_succ d4 k)
          have A4 := Lib.hid a4
          by_cases hq : condName (k : Int) = d4
          · have hqq : ((condName (k : Int)).toList == d4.toList) = true := by rw [beq_str]; exact decide_eq_true hq
            replace HS := Lib.hid (HS.out.trans (if_pos hq))
            generalize condName (k : Int) = cn at *
            go_wp2
            have HX := Lib.hid (Below.refl wr.heap.size wr)
            go_region_held3 (fun w' => w'.cell? ⟨g2, o2 + 4, none⟩ = some (.string d4))
              (first | with_reducible exact A4.out | with_reducible exact keep_cell HX.out A4.out | exact A4.out)
              ((go_at_call 28; refine (HC.out _).mono ?_; rintro e w3 ⟨rfl, hb3⟩; replace HX := Lib.hid (by first | exact below_of_le HX.out hb3 | exact below_of_le HX.out.drew hb3 : Below wr.heap.size wr w3); clear hb3))
            all_goals (have hF := HX.out; have hkb3 := keep_blk hF hkb; obtain ⟨y0, y1, y2, y3, y4⟩ := blk5 hkb3; have f1 := hkb3.frozen)
            go_wp2
            have hb3 := HB.out.trans (hF.mono HB.out.size)
            exact ⟨⟨k + 1, rfl, hlt, by rw [HS.out]; exact put_five _ hkb3, by rw [World.size_setCell]; exact hkb3.lt, setCell_below hb3 hg6, (cell_far hne1).trans (keep_cell hF A4.out), blk_far hne2 (keep_blk hF hk1), (hE.step hF).below (setCell_below (Below.refl _ _) hg6) he.env.size⟩, by simp only [intOf]; omega⟩
          · have hqq : ((condName (k : Int)).toList == d4.toList) = false := by rw [beq_str]; exact decide_eq_false hq
            replace HS := Lib.hid (HS.out.trans (if_neg hq))
            generalize condName (k : Int) = cn at *
            go_wp2
            have HX := Lib.hid (Below.refl wr.heap.size wr)
            go_region_held3 (fun w' => w'.cell? ⟨g2, o2 + 4, none⟩ = some (.string d4))
              (first | with_reducible exact A4.out | with_reducible exact keep_cell HX.out A4.out | exact A4.out)
              ((go_at_call 28; refine (HC.out _).mono ?_; rintro e w3 ⟨rfl, hb3⟩; replace HX := Lib.hid (by first | exact below_of_le HX.out hb3 | exact below_of_le HX.out.drew hb3 : Below wr.heap.size wr w3); clear hb3))
            all_goals (have hF := HX.out; have hkb3 := keep_blk hF hkb; obtain ⟨y0, y1, y2, y3, y4⟩ := blk5 hkb3; have f1 := hkb3.frozen)
            go_wp2
            rw [← HS.out] at hkb3
            have hb3 := HB.out.trans (hF.mono HB.out.size)
            exact ⟨⟨k + 1, rfl, hlt, hkb3, hkb3.lt, hb3, keep_cell hF A4.out, keep_blk hF hk1, hE.step hF⟩, by simp only [intOf]; omega⟩
        · obtain rfl : k = 6 := by omega
          clear hsz
          generalize condUpTo d4 6 = x4 at *
          have HK := Lib.hid (impl_PageOk ⟨x0, x1, x2, x3, x4⟩)
          have HL := Lib.hid (impl_PageLine ⟨x0, x1, x2, x3, x4⟩)
          have HE := Lib.hid hE
          clear hE
          obtain ⟨y0, y1, y2, y3, y4⟩ := blk5 hkb
          obtain ⟨z0, z1, z2, z3, z4⟩ := blk5 hk1
          have f1 := hkb.frozen
          have f2 := hk1.frozen
          have HX := Lib.hid (Below.refl wr.heap.size wr)
          cases hp : pageOk ⟨x0, x1, x2, x3, x4⟩ with
          | false =>
            rw [hp] at HK
            go_wp2_with (go_at_call 25; refine (HK.out _).mono ?_; rintro e w5 ⟨rfl, hb5⟩; replace HX := Lib.hid hb5; replace hk1 := keep_blk hb5 hk1; clear z0 z1 z2 z3 z4 y0 y1 y2 y3 y4 f1 f2; obtain ⟨z0, z1, z2, z3, z4⟩ := blk5 hk1; have f2 := hk1.frozen)
            obtain ⟨q0, q1, q2, q3, q4⟩ := blk5 (put5 (.int .i64 0) (.int .i64 0) (.int .i64 0) (.int .i64 0) (.int .i64 0) hk1)
            simp only [World.setCells] at q0 q1 q2 q3 q4
            refine bodyPost_ret (v := .tuple #[.agg zc, .bool false]) (by simp [results, Tryd.results16, go_sem, q0, q1, q2, q3, q4]) rfl ⟨by rw [HPP.out.trans (if_neg (fun h => by rw [hp] at h; exact absurd h.1 (by decide)))]; rfl, ?_⟩
            exact setCells_below (HB.out.trans (HX.out.mono HB.out.size)) 0 [_, _, _, _, _] (Nat.le_refl _)
          | true =>
            rw [hp] at HK
            by_cases hq : pageLine ⟨x0, x1, x2, x3, x4⟩ = line
            · rw [hq] at HL
              have hqq : (line.toList == line.toList) = true := by simp
              go_wp2_with (first
                | (go_at_call 25; refine (HK.out _).mono ?_; rintro e w5 ⟨rfl, hb5⟩; replace HX := Lib.hid hb5; replace HE := Lib.hid (HE.out.step hb5); replace hk1 := keep_blk hb5 hk1; replace hkb := keep_blk hb5 hkb; clear z0 z1 z2 z3 z4 y0 y1 y2 y3 y4 f1 f2 hb5; obtain ⟨z0, z1, z2, z3, z4⟩ := blk5 hk1; have f2 := hk1.frozen; obtain ⟨y0, y1, y2, y3, y4⟩ := blk5 hkb; have f1 := hkb.frozen)
                | (go_at_call 9; refine (HL.out _ HE.out.env).mono ?_; rintro e w6 ⟨rfl, hb5⟩; replace HX := Lib.hid (below_of_le HX.out hb5); replace hk1 := keep_blk hb5 hk1; replace hkb := keep_blk hb5 hkb; clear z0 z1 z2 z3 z4 y0 y1 y2 y3 y4 f1 f2 hb5; obtain ⟨z0, z1, z2, z3, z4⟩ := blk5 hk1; have f2 := hk1.frozen; obtain ⟨y0, y1, y2, y3, y4⟩ := blk5 hkb; have f1 := hkb.frozen))
              obtain ⟨q0, q1, q2, q3, q4⟩ := blk5 (put5 (.int .i64 x0) (.int .i64 x1) (.int .i64 x2) (.int .i64 x3) (.int .i64 x4) hk1)
              simp only [World.setCells] at q0 q1 q2 q3 q4
              refine bodyPost_ret (v := .tuple #[.agg #[.int .i64 x0, .int .i64 x1, .int .i64 x2, .int .i64 x3, .int .i64 x4], .bool true]) (by simp [results, Tryd.results16, go_sem, q0, q1, q2, q3, q4]) rfl ⟨by rw [HPP.out.trans (if_pos ⟨hp, hq⟩)]; rfl, ?_⟩
              exact setCells_below (HB.out.trans (HX.out.mono HB.out.size)) 0 [_, _, _, _, _] (Nat.le_refl _)
            · have hqq : ((pageLine ⟨x0, x1, x2, x3, x4⟩).toList == line.toList) = false := by rw [beq_str]; exact decide_eq_false hq
              replace HPP := Lib.hid (HPP.out.trans (if_neg (fun h => hq h.2)))
              clear hq
              generalize pageLine ⟨x0, x1, x2, x3, x4⟩ = l at *
              go_wp2_with (first
                | (go_at_call 25; refine (HK.out _).mono ?_; rintro e w5 ⟨rfl, hb5⟩; replace HX := Lib.hid hb5; replace HE := Lib.hid (HE.out.step hb5); replace hk1 := keep_blk hb5 hk1; replace hkb := keep_blk hb5 hkb; clear z0 z1 z2 z3 z4 y0 y1 y2 y3 y4 f1 f2 hb5; obtain ⟨z0, z1, z2, z3, z4⟩ := blk5 hk1; have f2 := hk1.frozen; obtain ⟨y0, y1, y2, y3, y4⟩ := blk5 hkb; have f1 := hkb.frozen)
                | (go_at_call 9; refine (HL.out _ HE.out.env).mono ?_; rintro e w6 ⟨rfl, hb5⟩; replace HX := Lib.hid (below_of_le HX.out hb5); replace hk1 := keep_blk hb5 hk1; replace hkb := keep_blk hb5 hkb; clear z0 z1 z2 z3 z4 y0 y1 y2 y3 y4 f1 f2 hb5; obtain ⟨z0, z1, z2, z3, z4⟩ := blk5 hk1; have f2 := hk1.frozen; obtain ⟨y0, y1, y2, y3, y4⟩ := blk5 hkb; have f1 := hkb.frozen))
              obtain ⟨q0, q1, q2, q3, q4⟩ := blk5 (put5 (.int .i64 0) (.int .i64 0) (.int .i64 0) (.int .i64 0) (.int .i64 0) hk1)
              simp only [World.setCells] at q0 q1 q2 q3 q4
              refine bodyPost_ret (v := .tuple #[.agg zc, .bool false]) (by simp [results, Tryd.results16, go_sem, q0, q1, q2, q3, q4]) rfl ⟨by rw [HPP.out]; rfl, ?_⟩
              exact setCells_below (HB.out.trans (HX.out.mono HB.out.size)) 0 [_, _, _, _, _] (Nat.le_refl _)
  · have h5' : ((ws.length : Int) == 5) = false := by simp; omega
    replace HPP := Lib.hid (HPP.out.trans (if_neg (fun h => h5 h.1)))
    go_enter Tryd.func16, Tryd.ntmps16
    go_wp2_with (go_at_call 33; refine (HP.out _ hea).mono ?_; rintro e w1 ⟨v, rfl, ho, hb⟩; obtain ⟨A, c, rfl, hc, hm, r⟩ := ho.open st_len; clear r ho; have hk1 := keep_blk hb (blk_new w zc 25); replace hb := ((Below.refl w.heap.size w).alloc (Nat.le_refl _) _).trans (hb.mono (by simp)); obtain ⟨z0, z1, z2, z3, z4⟩ := blk5 hk1; have f2 := hk1.frozen)
    obtain ⟨q0, q1, q2, q3, q4⟩ := blk5 (put5 (.int .i64 0) (.int .i64 0) (.int .i64 0) (.int .i64 0) (.int .i64 0) hk1)
    simp only [World.setCells] at q0 q1 q2 q3 q4
    refine bodyPost_ret (v := .tuple #[.agg zc, .bool false]) (by simp [results, Tryd.results16, go_sem, q0, q1, q2, q3, q4]) rfl ⟨by rw [HPP.out]; rfl, ?_⟩
    exact setCells_below hb 0 [_, _, _, _, _] (Nat.le_refl _)
end Go.Proofs.YtcchjdmioeocdaaDoor
