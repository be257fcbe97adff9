/- ParsePage, of the reference and of the program: both answer parsePage. No condition. -/
import Derived.Test.YtcchjdmioeocdaaDoorB10
namespace Go.Proofs.YtcchjdmioeocdaaDoor
open Go.RowKit
def it (n : Int) : List Value := [.int .i64 n]
theorem it_len (n : Int) : (it n).length = 1 := rfl
theorem it_one (n : Int) : ∀ u ∈ it n, u.oneCell' = true := by
  intro u hu
  rw [it, List.mem_singleton] at hu
  rw [hu]; rfl
def got (r : Page × Bool) : Value := .tuple #[.agg (pg r.1).toArray, .bool r.2]
abbrev zc : Array Value := #[.int .i64 0, .int .i64 0, .int .i64 0, .int .i64 0, .int .i64 0]
theorem cut_mem (b : UInt8) : ∀ (l : List UInt8), ∀ k ∈ cut b l, k.length ≤ l.length
  | [], k, h => by
    rw [cut, List.mem_singleton] at h
    rw [h]; exact Nat.le_refl _
  | c :: l, k, h => by
    rw [cut] at h
    split at h
    · rcases List.mem_cons.1 h with h | h
      · rw [h]; simp
      · have := cut_mem b l k h
        simp; omega
    · rcases List.mem_cons.1 h with h | h
      · rw [h]
        cases hc : cut b l with
        | nil => simp
        | cons a t =>
          have := cut_mem b l a (by rw [hc]; simp)
          simpa using this
      · have := cut_mem b l k (List.mem_of_mem_tail h)
        simp; omega
theorem parts_mem {s p : ByteArray} {b : UInt8} (h : p ∈ parts s b) : p.size ≤ s.size := by
  obtain ⟨k, hk, rfl⟩ := List.mem_map.1 h
  have := cut_mem b _ k hk
  rw [Array.length_toList] at this
  rw [bs_size]; exact this
theorem Row.at_ {α : Type} {f : α → List Value} {sz g o : Nat} {w : World} {xs : List α} (h : Row f sz w (some ⟨g, o, none⟩) xs) (j : Nat) (x : α) (hx : xs[j]? = some x) (i : Nat) (u : Value) (hu : (f x)[i]? = some u) : w.cell? ⟨g, o + j * sz + i, none⟩ = some u := by
  obtain ⟨g', o', he, hc⟩ := h.out j x hx
  injection he with he
  injection he with h1 h2
  subst h1; subst h2
  exact hc i u hu
theorem four_read {ws : List ByteArray} (h5 : ws.length = 5) : (ws.take 4).map (fun s => (readNum s).1) = [(readNum (ws.getD 0 em0)).1, (readNum (ws.getD 1 em0)).1, (readNum (ws.getD 2 em0)).1, (readNum (ws.getD 3 em0)).1] := by
  match ws, h5 with
  | [_, _, _, _, _], _ => rfl
theorem Blk.frozen {g : Nat} {cells : Array Value} {t : TypeId} {w : World} (h : Blk g cells t w) (j : Nat) : w.frozen? ⟨g, j, none⟩ = false := blk_frozen h.out j
theorem blk5 {w : World} {g : Nat} {t : TypeId} {c0 c1 c2 c3 c4 : Value} (h : Blk g #[c0, c1, c2, c3, c4] t w) : w.cell? ⟨g, 0, none⟩ = some c0 ∧ w.cell? ⟨g, 1, none⟩ = some c1 ∧ w.cell? ⟨g, 2, none⟩ = some c2 ∧ w.cell? ⟨g, 3, none⟩ = some c3 ∧ w.cell? ⟨g, 4, none⟩ = some c4 :=
  ⟨h.cell 0, h.cell 1, h.cell 2, h.cell 3, h.cell 4⟩
theorem put5 {w : World} {g : Nat} {t : TypeId} {c0 c1 c2 c3 c4 : Value} (v0 v1 v2 v3 v4 : Value) (h : Blk g #[c0, c1, c2, c3, c4] t w) : Blk g #[v0, v1, v2, v3, v4] t (w.setCells g 0 [v0, v1, v2, v3, v4]) :=
  ⟨by simp [World.setCells, World.setCell, Array.getElem?_modify, h.out]⟩
/-- The page's five cells as results. -/
theorem res5 {w : World} {g : Nat} {t : TypeId} (p : Page) (h : Blk g (pg p).toArray t w) : w.cell? ⟨g, 0, none⟩ = some (.int .i64 p.at_) ∧ w.cell? ⟨g, 1, none⟩ = some (.int .i64 p.count) ∧ w.cell? ⟨g, 2, none⟩ = some (.int .i64 p.law) ∧ w.cell? ⟨g, 3, none⟩ = some (.int .i64 p.next) ∧ w.cell? ⟨g, 4, none⟩ = some (.int .i64 p.cond) := blk5 h
set_option maxHeartbeats 4000000 in
set_option maxRecDepth 100000 in
theorem spec_ParsePage (line : ByteArray) (w : World) : Calls Tryd.prog 15 #[.string line] w fun e w' => e = .returned (got (parsePage line)) ∧ Below w.heap.size w w' := by
  by_cases h50 : 50 < line.size
  · have HP := Lib.hid (parse_long h50)
    have h50' : (50 : Int) < line.size := by omega
    go_enter Tryd.func15, Tryd.ntmps15
    go_wp2
    refine bodyPost_ret (v := .tuple #[.agg zc, .bool false]) (by simp [results, Tryd.results15, go_sem]) rfl ⟨by rw [HP.out]; rfl, ?_⟩
    exact ((Below.refl _ _).alloc (Nat.le_refl _) _).alloc (by simp) _
  have h50' : ¬ (50 : Int) < line.size := by omega
  have HP := Lib.hid (spec_l01Parts line 32 (by omega))
  obtain ⟨ws, hws⟩ : ∃ ws, parts line 32 = ws := ⟨_, rfl⟩
  have HW := Lib.hid hws
  have HM := Lib.hid (show ∀ p ∈ ws, p.size ≤ 50 from fun p hp => Nat.le_trans (parts_mem (by rw [hws]; exact hp)) (by omega))
  rw [hws] at HP
  by_cases h5 : ws.length = 5
  · have h5' : (ws.length : Int) = 5 := by omega
    go_enter Tryd.func15, Tryd.ntmps15
    go_wp2_with (go_at_call 31; refine (HP.out _).mono ?_; rintro e w1 ⟨v, rfl, ho, hb⟩; obtain ⟨A, c, rfl, hc, hm, r⟩ := ho.open st_len; replace r := Lib.hid r; clear ho; rw [h5]; have hk1 := keep_blk hb (keep_blk ((Below.refl _ _).alloc (Nat.le_refl _) _) (blk_new w zc 25)); have hk2 : Blk (w.heap.size + 1) zc 25 w1 := (by have := keep_blk hb (blk_new (w.alloc (.cells zc 25)) zc 25); rwa [World.size_alloc] at this); replace hb := ((Below.refl w.heap.size w).alloc (Nat.le_refl _) _).trans ((((Below.refl _ _).alloc (Nat.le_refl _) _).trans (hb.mono (by simp))).mono (by simp)))
    clear HP hws
    go_loopw [6, 7] (fun v x wr => ∃ (i : Nat) (xs : List Int), x = .int .i64 i ∧ i ≤ 4 ∧ Own 3 it 1 w1.heap.size wr v xs ∧ xs = (ws.take i).map (fun s => (readNum s).1) ∧ Below w1.heap.size w1 wr) (fun _ x _ => 4 - (intOf x).toNat)
    case atStart => exact ⟨0, [], rfl, by omega, Own.nil _ _ _ _ _ _, rfl, (Below.refl _ _).alloc (Nat.le_refl _) _⟩
    case round =>
      obtain ⟨i, xs, rfl, hi, ho, hxs, hb1⟩ := hrel
      have hB := hb.trans (hb1.mono hb.size)
      replace hk1 := keep_blk hb1 hk1
      replace hk2 := keep_blk hb1 hk2
      by_cases hlt : i < 4
      · obtain ⟨g, o, rfl, k⟩ := (r.out.below hb1).out i (ws[i]'(by omega)) (List.getElem?_eq_getElem (by omega))
        have hmem := HM.out (ws[i]'(by omega)) (List.getElem_mem _)
        have HD := Lib.hid (show ws.getD i em0 = ws[i]'(by omega) from by rw [List.getD_eq_getElem?_getD, List.getElem?_eq_getElem (by omega)]; rfl)
        have HT := Lib.hid (show (ws.take (i + 1)).map (fun s => (readNum s).1) = (ws.take i).map (fun s => (readNum s).1) ++ [(readNum (ws[i]'(by omega))).1] from by rw [List.take_succ_eq_append_getElem (by omega), List.map_append]; rfl)
        generalize ws[i]'(by omega) = d at *
        have k0 := k 0 _ rfl
        rw [Nat.mul_one, Nat.add_zero] at k0
        clear k
        have HR := Lib.hid (spec_l01Read d (by omega))
        cases hr : readNum d with
        | mk x ok =>
          rw [hr] at HR HT
          cases ok with
          | false =>
            have HE := Lib.hid (parse_unread HW.out i hlt (by rw [HD.out, hr]))
            go_wp2_with (go_at_call 32; refine (HR.out _).mono ?_; rintro e w2 ⟨rfl, hb2⟩; replace hk1 := keep_blk hb2 hk1; replace hk2 := keep_blk hb2 hk2; replace hB := below_of_le hB hb2; obtain ⟨y0, y1, y2, y3, y4⟩ := blk5 hk1; obtain ⟨z0, z1, z2, z3, z4⟩ := blk5 hk2; have f1 := hk1.frozen)
            obtain ⟨q0, q1, q2, q3, q4⟩ := blk5 (put5 (.int .i64 0) (.int .i64 0) (.int .i64 0) (.int .i64 0) (.int .i64 0) hk1)
            simp only [World.setCells] at q0 q1 q2 q3 q4
            refine bodyPost_ret (v := .tuple #[.agg zc, .bool false]) (by simp [results, Tryd.results15, go_sem, q0, q1, q2, q3, q4]) rfl ⟨by rw [HE.out]; rfl, ?_⟩
            exact setCells_below hB 0 [_, _, _, _, _] (Nat.le_refl _)
          | true =>
            have HO := Lib.hid ho
            have HX := Lib.hid hxs
            have hlen : xs.length = i := by rw [hxs, List.length_map, List.length_take]; omega
            clear ho hxs
            go_wp2_with (first
              | (go_at_call 32; refine (HR.out _).mono ?_; rintro e w2 ⟨rfl, hb2⟩; replace hb1 := below_of_le hb1 hb2; replace HO := Lib.hid (HO.out.below hb2))
              | (at_builtin; refine wp_append it_len _ w1.heap.size rfl _ _ 49 3 (.int .i64 0) 8 rfl Tryd.underlying49 (by kernel_rfl) rfl (by decide) (by decide) u6 xs x _ rfl rfl rfl (it_one _) HO.out (by omega) hb1.size ?_; intro v' w' ho hg; replace hb1 := hg.below hb1 hb1.size (fun g h => (HO.out.foot g h).1); replace ho := Lib.hid ho; clear hg))
            exact ⟨⟨i + 1, _, rfl, hlt, ho.out, by rw [HT.out, HX.out], hb1⟩, by simp only [intOf]; omega⟩
      · obtain rfl : i = 4 := by omega
        rw [four_read h5] at hxs
        have HN := Lib.hid (parse_tried HW.out)
        have HR0 := read_I64 (ws.getD 0 em0)
        generalize (readNum (ws.getD 0 em0)).1 = x0 at *
        generalize (readNum (ws.getD 1 em0)).1 = x1 at *
        generalize (readNum (ws.getD 2 em0)).1 = x2 at *
        generalize (readNum (ws.getD 3 em0)).1 = x3 at *
        subst hxs
        obtain ⟨A2, c2, rfl, hc2, hm2, r2⟩ := ho.open it_len
        obtain ⟨g2, o2, rfl, -⟩ := r2.out 0 x0 rfl
        have a0 := r2.at_ 0 x0 rfl 0 _ rfl
        have a1 := r2.at_ 1 x1 rfl 0 _ rfl
        have a2 := r2.at_ 2 x2 rfl 0 _ rfl
        have a3 := r2.at_ 3 x3 rfl 0 _ rfl
        simp only [Nat.mul_one, Nat.add_zero] at a0 a1 a2 a3
        simp only [List.length_cons, List.length_nil, Nat.zero_add, Nat.reduceAdd] at hc2 ⊢
        clear r2 ho HR0
        go_wp2
        go_loopw [10] (fun x wq => ∃ k : Nat, x = .int .i64 k ∧ 1 ≤ k ∧ k ≤ 6 ∧ (∀ y : Int, 1 ≤ y → y < k → pageLine ⟨x0, x1, x2, x3, y⟩ ≠ line) ∧ Below wr.heap.size wr wq) (fun x _ => 6 - (intOf x).toNat)
        case atStart => exact ⟨1, rfl, Nat.le_refl _, by omega, fun y h1 h2 => by omega, Below.refl _ _⟩
        case round =>
          obtain ⟨k, rfl, hk0, hk6, hno, hb2⟩ := hrel
          replace hB := hB.trans (hb2.mono hB.size)
          replace hk1 := keep_blk hb2 hk1
          replace hk2 := keep_blk hb2 hk2
          replace a0 := keep_cell hb2 a0
          replace a1 := keep_cell hb2 a1
          replace a2 := keep_cell hb2 a2
          replace a3 := keep_cell hb2 a3
          have HNO := Lib.hid hno
          clear hno
          by_cases hlt : k < 6
          · have HE := Lib.hid (spec_PageLine ⟨x0, x1, x2, x3, k⟩)
            by_cases hq : pageLine ⟨x0, x1, x2, x3, k⟩ = line
            · have HY := Lib.hid (parse_yes (line_ne (by rw [HW.out]; exact h5) hq) hq)
              rw [hq] at HE
              go_wp2
              go_region_held3 (fun w' => w'.cell? ⟨g2, o2, none⟩ = some (.int .i64 x0) ∧ w'.cell? ⟨g2, o2 + 1, none⟩ = some (.int .i64 x1) ∧ w'.cell? ⟨g2, o2 + 2, none⟩ = some (.int .i64 x2) ∧ w'.cell? ⟨g2, o2 + 3, none⟩ = some (.int .i64 x3))
        (first | go_keep | exact (And.imp (keep_cell hb2) (And.imp (keep_cell hb2) (And.imp (keep_cell hb2) (keep_cell hb2)))) (by assumption))
                (fail)
              have hqq : (line.toList == line.toList) = true := by simp
              have pc := blk_new wr #[.int .i64 x0, .int .i64 x1, .int .i64 x2, .int .i64 x3, .int .i64 k] 25
              have hBl := ((Below.refl wr.heap.size wr).alloc (Nat.le_refl _) (.cells #[.int .i64 x0, .int .i64 x1, .int .i64 x2, .int .i64 x3, .int .i64 k] 25)).drew
              clear hk2
              go_wp2_with (go_at_call 7; refine (HE.out _).mono ?_; rintro e w2 ⟨rfl, hb3⟩; have hb4 := below_of_le hBl hb3; replace pc := keep_blk hb3 (show Blk wr.heap.size _ _ (wr.alloc _).drew from ⟨pc.out⟩); replace hk1 := keep_blk hb4 hk1; replace hB := hB.trans (hb4.mono hB.size); obtain ⟨y0, y1, y2, y3, y4⟩ := blk5 hk1; have f1 := hk1.frozen; obtain ⟨z0, z1, z2, z3, z4⟩ := blk5 pc)
              obtain ⟨q0, q1, q2, q3, q4⟩ := blk5 (put5 (.int .i64 x0) (.int .i64 x1) (.int .i64 x2) (.int .i64 x3) (.int .i64 k) hk1)
              simp only [World.setCells] at q0 q1 q2 q3 q4
              refine bodyPost_ret (v := .tuple #[.agg #[.int .i64 x0, .int .i64 x1, .int .i64 x2, .int .i64 x3, .int .i64 k], .bool true]) (by simp [results, Tryd.results15, go_sem, q0, q1, q2, q3, q4]) rfl ⟨by rw [HY.out]; rfl, ?_⟩
              exact setCells_below hB 0 [_, _, _, _, _] (Nat.le_refl _)
            · have hqq : ((pageLine ⟨x0, x1, x2, x3, k⟩).toList == line.toList) = false := by rw [beq_str]; exact decide_eq_false hq
              have HNO2 := Lib.hid (show ∀ y : Int, 1 ≤ y → y < ((k + 1 : Nat) : Int) → pageLine ⟨x0, x1, x2, x3, y⟩ ≠ line from fun y h1 h2 => by
                by_cases hy : y < k
                · exact HNO.out y h1 hy
                · obtain rfl : y = k := by omega
                  exact hq)
              generalize pageLine ⟨x0, x1, x2, x3, k⟩ = l at *
              clear hq
              go_wp2
              go_region_held3 (fun w' => w'.cell? ⟨g2, o2, none⟩ = some (.int .i64 x0) ∧ w'.cell? ⟨g2, o2 + 1, none⟩ = some (.int .i64 x1) ∧ w'.cell? ⟨g2, o2 + 2, none⟩ = some (.int .i64 x2) ∧ w'.cell? ⟨g2, o2 + 3, none⟩ = some (.int .i64 x3))
        (first | go_keep | exact (And.imp (keep_cell hb2) (And.imp (keep_cell hb2) (And.imp (keep_cell hb2) (keep_cell hb2)))) (by assumption))
                (fail)
              have pc := blk_new wr #[.int .i64 x0, .int .i64 x1, .int .i64 x2, .int .i64 x3, .int .i64 k] 25
              have hBl := ((Below.refl wr.heap.size wr).alloc (Nat.le_refl _) (.cells #[.int .i64 x0, .int .i64 x1, .int .i64 x2, .int .i64 x3, .int .i64 k] 25)).drew
              clear hk2 HNO
              go_wp2_with (go_at_call 7; refine (HE.out _).mono ?_; rintro e w2 ⟨rfl, hb3⟩; have hb4 := below_of_le hBl hb3; replace pc := keep_blk hb3 (show Blk wr.heap.size _ _ (wr.alloc _).drew from ⟨pc.out⟩); replace hk1 := keep_blk hb4 hk1; replace hB := hB.trans (hb4.mono hB.size); obtain ⟨y0, y1, y2, y3, y4⟩ := blk5 hk1; have f1 := hk1.frozen; obtain ⟨z0, z1, z2, z3, z4⟩ := blk5 pc)
              go_roundw
              case measure => show 6 - (intOf (.int .i64 ((k : Int) + 1))).toNat < 6 - (intOf (.int .i64 (k : Int))).toNat; simp only [intOf]; omega
              case rel => exact ⟨_, _, _, _, _, _, _, _, _, _, _, _, _, _, _, _, _, _, _, _, _, _, _, _, _, _, ⟨k + 1, rfl, by omega, hlt, HNO2.out, hb2.trans (hb4.mono hb2.size)⟩, rfl⟩
          · obtain rfl : k = 6 := by omega
            have HE := Lib.hid (HN.out (fun y h1 h2 => HNO.out y h1 (by omega)))
            obtain ⟨y0, y1, y2, y3, y4⟩ := blk5 hk1
            obtain ⟨z0, z1, z2, z3, z4⟩ := blk5 hk2
            have f1 := hk1.frozen
            go_wp2
            obtain ⟨q0, q1, q2, q3, q4⟩ := blk5 (put5 (.int .i64 0) (.int .i64 0) (.int .i64 0) (.int .i64 0) (.int .i64 0) hk1)
            simp only [World.setCells] at q0 q1 q2 q3 q4
            refine bodyPost_ret (v := .tuple #[.agg zc, .bool false]) (by simp [results, Tryd.results15, go_sem, q0, q1, q2, q3, q4]) rfl ⟨by rw [HE.out]; rfl, ?_⟩
            exact setCells_below hB 0 [_, _, _, _, _] (Nat.le_refl _)
  · have hE := Lib.hid (parse_short (line := line) (by rw [hws]; exact h5))
    have h5' : ¬ (ws.length : Int) = 5 := by omega
    go_enter Tryd.func15, Tryd.ntmps15
    go_wp2_with (go_at_call 31; refine (HP.out _).mono ?_; rintro e w1 ⟨v, rfl, ho, hb⟩; obtain ⟨A, c, rfl, hc, hm, r⟩ := ho.open st_len; clear r; have hk1 := keep_blk hb (keep_blk ((Below.refl _ _).alloc (Nat.le_refl _) _) (blk_new w zc 25)); obtain ⟨hc1, hf1⟩ := bcell hb; replace hb := ((Below.refl w.heap.size w).alloc (Nat.le_refl _) _).trans ((((Below.refl _ _).alloc (Nat.le_refl _) _).trans (hb.mono (by simp))).mono (by simp)))
    obtain ⟨r0, r1, r2, r3, r4⟩ := blk5 (put5 (.int .i64 0) (.int .i64 0) (.int .i64 0) (.int .i64 0) (.int .i64 0) hk1)
    simp only [World.setCells] at r0 r1 r2 r3 r4
    refine bodyPost_ret (v := .tuple #[.agg zc, .bool false]) (by simp [results, Tryd.results15, go_sem, r0, r1, r2, r3, r4]) rfl ⟨by rw [hE.out]; rfl, ?_⟩
    exact setCells_below hb 0 [_, _, _, _, _] (Nat.le_refl _)
end Go.Proofs.YtcchjdmioeocdaaDoor
