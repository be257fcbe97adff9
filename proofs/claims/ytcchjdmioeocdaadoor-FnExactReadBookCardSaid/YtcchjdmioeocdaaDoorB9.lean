/- Lines of texts, numbers read, of the reference and of the program. No condition. -/
import Derived.Test.YtcchjdmioeocdaaDoorB8
import Derived.Test.YtcchjdmioeocdaaDoorS2
namespace Go.Proofs.YtcchjdmioeocdaaDoor
open Go.RowKit
def em0 : ByteArray := ⟨#[]⟩
def lines (s : ByteArray) : List ByteArray := if (parts s 10).getLast? = some em0 then (parts s 10).dropLast else parts s 10
theorem parts_pos (s : ByteArray) (b : UInt8) : 1 ≤ (parts s b).length := by rw [← split_len]; omega
theorem parts_le (s : ByteArray) (b : UInt8) : (parts s b).length ≤ s.size + 1 := by
  unfold parts
  rw [List.length_map]
  have := cut_length_le b s.data.toList
  rwa [Array.length_toList] at this
theorem isEmpty_false {l : ByteArray} (h : ¬ l = ⟨#[]⟩) : l.toList.isEmpty = false := by
  rw [ByteArray.toList_eq]
  cases hl : l.data.toList with
  | nil => exact absurd (ByteArray.ext (by rw [← Array.toArray_toList (xs := l.data), hl])) h
  | cons a t => rfl
theorem lines_eq (s : ByteArray) : lines s = if (parts s 10)[(parts s 10).length - 1]? = some em0 then (parts s 10).take ((parts s 10).length - 1) else parts s 10 := by
  unfold lines
  rw [List.getLast?_eq_getElem?, List.dropLast_eq_take]
set_option maxRecDepth 100000 in
theorem spec_l02Lines (s : ByteArray) (hs : s.size ≤ 4294967280) (w : World) :
    Calls Tryd.prog 35 #[.string s] w fun e w' => ∃ v, e = .returned v ∧ Own 9 st 1 w.heap.size w' v (lines s) ∧ Below w.heap.size w w' := by
  have HP := Lib.hid (spec_l01Parts s 10 hs)
  have hpos := parts_pos s 10
  have hle := parts_le s 10
  have hL := lines_eq s
  have HL := Lib.hid hL
  clear hL
  generalize parts s 10 = ps at *
  have hlast : ps.length - 1 < ps.length := by omega
  have hI : ((ps.length : Int) - 1).toNat = ps.length - 1 := by omega
  obtain ⟨x, hx⟩ : ∃ x, ps[ps.length - 1] = x := ⟨_, rfl⟩
  rw [List.getElem?_eq_getElem hlast, hx] at HL
  have HX := Lib.hid (show ps[ps.length - 1]? = some x from by rw [List.getElem?_eq_getElem hlast, hx])
  clear hx
  by_cases he : x = em0
  · have hE : x.toList.isEmpty = true := by rw [he, ByteArray.toList_eq]; rfl
    have HL2 := Lib.hid (HL.out.trans (if_pos (congrArg some he)))
    clear HL he
    go_enter Tryd.func35, Tryd.ntmps35
    go_wp2_with (go_at_call 31; refine (HP.out _).mono ?_; rintro e w1 ⟨v, rfl, ho, hb⟩; obtain ⟨A, c, rfl, hc, hm, r⟩ := ho.open st_len; obtain ⟨g, o, rfl, k⟩ := r.out (ps.length - 1) x HX.out; have k0 := k 0 _ rfl; rw [Nat.mul_one, Nat.add_zero] at k0; clear r k; replace ho := Lib.hid ho)
    go_ret
    exact ⟨_, rfl, by rw [HL2.out]; exact ho.out.take st_len (by omega), hb⟩
  · have hE := isEmpty_false he
    have HL2 := Lib.hid (HL.out.trans (if_neg (fun e => he (Option.some.inj e))))
    clear HL he
    go_enter Tryd.func35, Tryd.ntmps35
    go_wp2_with (go_at_call 31; refine (HP.out _).mono ?_; rintro e w1 ⟨v, rfl, ho, hb⟩; obtain ⟨A, c, rfl, hc, hm, r⟩ := ho.open st_len; obtain ⟨g, o, rfl, k⟩ := r.out (ps.length - 1) x HX.out; have k0 := k 0 _ rfl; rw [Nat.mul_one, Nat.add_zero] at k0; clear r k; replace ho := Lib.hid ho)
    go_ret
    exact ⟨_, rfl, by rw [HL2.out]; exact ho.out, hb⟩
/-- What the program's readers want of the library's variables. -/
structure Env2 (w : World) : Prop where
  env : Env w
  len : ∃ m, w.cell? ⟨0, 0, none⟩ = some (.int .i64 m)
  es : ∃ t p, w.var? Tryd.prog "strconv.ErrSyntax" = some #[.iface t p]
  er : ∃ t p, w.var? Tryd.prog "strconv.ErrRange" = some #[.iface t p]
theorem Env2.below {B : Nat} {w w' : World} (h : Env2 w) (hb : Below B w w') (hB : 8 ≤ B) : Env2 w' where
  env := h.env.below hb hB
  len := by
    obtain ⟨m, hm⟩ := h.len
    exact ⟨m, by rw [hb.cell (p := ⟨0, 0, none⟩) (show 0 < B by omega)]; exact hm⟩
  es := by
    obtain ⟨t, p, h⟩ := h.es
    exact ⟨t, p, by rw [var_below (g := 1) (by kernel_rfl) (by omega) hb]; exact h⟩
  er := by
    obtain ⟨t, p, h⟩ := h.er
    exact ⟨t, p, by rw [var_below (g := 2) (by kernel_rfl) (by omega) hb]; exact h⟩
theorem Env2.step {w w' : World} (h : Env2 w) (hb : Below w.heap.size w w') : Env2 w' := h.below hb h.env.size
theorem Env2.drew {w : World} (h : Env2 w) : Env2 w.drew := h.below (Below.refl 8 w).drew (Nat.le_refl _)
theorem split_own (s : ByteArray) (b : UInt8) (hs : s.size ≤ 4294967280) (w : World) (he : Env2 w) :
    Calls Tryd.prog 47 #[.string s, .string ⟨#[b]⟩] w fun e w' => ∃ v, e = .returned v ∧ Own 9 st 1 w.heap.size w' v (parts s b) ∧ Below w.heap.size w w' := by
  obtain ⟨m, hm⟩ := he.len
  refine (Tryd.strings_Split s ⟨#[b]⟩ m w (by omega) hm (Nat.le_refl 1)).mono ?_
  rintro e w' ⟨rfl, rfl⟩
  have hle := parts_le s b
  refine ⟨_, rfl, ?_, (Below.refl _ _).alloc (Nat.le_refl _) _⟩
  rw [split_len, split_parts]
  refine Own.lit _ st_len ?_ (Nat.le_refl _) (by simp only [maxLen]; omega)
  generalize parts s b = ps
  induction ps with
  | nil => rfl
  | cons p ps ih => simp only [List.map_cons, List.flatMap_cons]; exact congrArg (Value.string p :: ·) (by simpa using ih)
set_option maxRecDepth 100000 in
theorem impl_linesOf (s : ByteArray) (hs : s.size ≤ 4294967280) (w : World) (hE2 : Env2 w) :
    Calls Tryd.prog 36 #[.string s] w fun e w' => ∃ v, e = .returned v ∧ Own 9 st 1 w.heap.size w' v (lines s) ∧ Below w.heap.size w w' := by
  have HP := Lib.hid (split_own s 10 hs)
  have hpos := parts_pos s 10
  have hle := parts_le s 10
  have hL := lines_eq s
  have HL := Lib.hid hL
  clear hL
  generalize parts s 10 = ps at *
  have hlast : ps.length - 1 < ps.length := by omega
  have hI : ((ps.length : Int) - 1).toNat = ps.length - 1 := by omega
  obtain ⟨x, hx⟩ : ∃ x, ps[ps.length - 1] = x := ⟨_, rfl⟩
  rw [List.getElem?_eq_getElem hlast, hx] at HL
  have HX := Lib.hid (show ps[ps.length - 1]? = some x from by rw [List.getElem?_eq_getElem hlast, hx])
  clear hx
  by_cases he : x = em0
  · have hE : x.toList.isEmpty = true := by rw [he, ByteArray.toList_eq]; rfl
    have HL2 := Lib.hid (HL.out.trans (if_pos (congrArg some he)))
    clear HL he
    go_enter Tryd.func36, Tryd.ntmps36
    go_wp2_with (go_at_call 47; refine (HP.out _ hE2).mono ?_; rintro e w1 ⟨v, rfl, ho, hb⟩; obtain ⟨A, c, rfl, hc, hm, r⟩ := ho.open st_len; obtain ⟨g, o, rfl, k⟩ := r.out (ps.length - 1) x HX.out; have k0 := k 0 _ rfl; rw [Nat.mul_one, Nat.add_zero] at k0; clear r k; replace ho := Lib.hid ho)
    go_ret
    exact ⟨_, rfl, by rw [HL2.out]; exact ho.out.take st_len (by omega), hb⟩
  · have hE := isEmpty_false he
    have HL2 := Lib.hid (HL.out.trans (if_neg (fun e => he (Option.some.inj e))))
    clear HL he
    go_enter Tryd.func36, Tryd.ntmps36
    go_wp2_with (go_at_call 47; refine (HP.out _ hE2).mono ?_; rintro e w1 ⟨v, rfl, ho, hb⟩; obtain ⟨A, c, rfl, hc, hm, r⟩ := ho.open st_len; obtain ⟨g, o, rfl, k⟩ := r.out (ps.length - 1) x HX.out; have k0 := k 0 _ rfl; rw [Nat.mul_one, Nat.add_zero] at k0; clear r k; replace ho := Lib.hid ho)
    go_ret
    exact ⟨_, rfl, by rw [HL2.out]; exact ho.out, hb⟩
set_option maxRecDepth 100000 in
theorem impl_split (s : ByteArray) (n : Nat) (hs : s.size ≤ 4294967280) (w : World) (he : Env2 w) :
    Calls Tryd.prog 33 #[.string s, .int .i64 n] w fun e w' => ∃ v, e = .returned (.tuple #[v, .bool (((parts s 32).length : Int) == (n : Int))]) ∧ Own 9 st 1 w.heap.size w' v (parts s 32) ∧ Below w.heap.size w w' := by
  have HP := Lib.hid (split_own s 32 hs)
  generalize parts s 32 = ps at *
  go_enter Tryd.func33, Tryd.ntmps33
  go_wp2_with (go_at_call 47; refine (HP.out _ he).mono ?_; rintro e w1 ⟨v, rfl, ho, hb⟩; obtain ⟨A, c, rfl, hc, hm, r⟩ := ho.open st_len; clear r; replace ho := Lib.hid ho)
  go_ret2
  exact ⟨_, rfl, ho.out, hb⟩
set_option maxRecDepth 100000 in
theorem impl_atoi (s : ByteArray) (hs : s.size ≤ 281474976710656) (w : World) (he : Env2 w) :
    Calls Tryd.prog 34 #[.string s] w fun e w' => e = .returned (.int .i64 (atoi s)) ∧ Below w.heap.size w w' := by
  by_cases h : ∃ v, Lib.atoiAll s.data.toList = .ok v
  · obtain ⟨v, hv⟩ := h
    have HA := Lib.hid (show atoi s = v from by unfold atoi; rw [hv])
    have HV := Lib.hid hv
    clear hv
    go_enter Tryd.func34, Tryd.ntmps34
    go_wp2_with (go_at_call 48; refine (Tryd.strconv_Atoi_ok s (by omega) v HV.out _).mono ?_; rintro e w1 ⟨rfl, hw⟩)
    go_ret
    exact ⟨ret_int HA.out.symm, by
      rcases hw with rfl | ⟨t, rfl⟩
      · exact Below.refl _ _
      · exact ⟨rfl, rfl, rfl, by rw [Lib.bytesWorld_size]; omega, fun i hi => Lib.bytesWorld_at_old w _ t i (by omega)⟩⟩
  · have HA := Lib.hid (show atoi s = 0 from by
      unfold atoi
      cases hc : Lib.atoiAll s.data.toList
      · exact absurd ⟨_, hc⟩ h
      · rfl
      · rfl)
    have HN := Lib.hid (show ∀ v, Lib.atoiAll s.data.toList ≠ .ok v from fun v hv => h ⟨v, hv⟩)
    obtain ⟨t1, p1, h1⟩ := he.es
    obtain ⟨t2, p2, h2⟩ := he.er
    have H1 := Lib.hid h1
    have H2 := Lib.hid h2
    clear h h1 h2
    go_enter Tryd.func34, Tryd.ntmps34
    go_wp2_with (go_at_call 48; refine (Tryd.strconv_Atoi_bad s hs HN.out t1 t2 p1 p2 _ H1.out H2.out).mono ?_; rintro e w1 ⟨z, N, rfl, hb⟩)
    go_ret
    exact ⟨ret_int HA.out.symm, hb⟩
theorem take_byte (s : ByteArray) (i : Nat) (h : i < s.size) : s.data.toList.take (i + 1) = s.data.toList.take i ++ [s[i]'h] := by
  have h' : i < s.data.toList.length := by rw [Array.length_toList]; exact h
  rw [List.take_succ_eq_append_getElem h']
  rfl
theorem byte_range (s : ByteArray) (i : Nat) (h : i < s.size) : (0 : Int) ≤ ((s[i]'h).toNat : Int) ∧ ((s[i]'h).toNat : Int) ≤ 255 := by
  have := (s[i]'h).toNat_lt
  omega
theorem ret_ib {a b : Int} {c d : Bool} (h : (a, c) = (b, d)) : Ending.returned (.tuple #[.int .i64 a, .bool c]) = .returned (.tuple #[.int .i64 b, .bool d]) := by
  injection h with h1 h2
  rw [h1, h2]
theorem head_ne {s : ByteArray} (h0 : 0 < s.size) (hn : ¬ neg s.data.toList = true) : (((s[0]'h0).toNat : Int) == 45) = false := by
  rw [beq_eq_false_iff_ne]
  intro h
  apply hn
  unfold neg
  have h1 : s.data.toList[0]? = some (s[0]'h0) := by rw [List.getElem?_eq_getElem (by rw [Array.length_toList]; exact h0)]; rfl
  have h2 : s[0]'h0 = 45 := UInt8.toNat_inj.1 (by have : (45 : UInt8).toNat = 45 := rfl; omega)
  rw [List.head?_eq_getElem?, h1, h2]
  rfl
theorem head_eq {s : ByteArray} (h0 : 0 < s.size) (hn : neg s.data.toList = true) : (((s[0]'h0).toNat : Int) == 45) = true := by
  unfold neg at hn
  have h1 : s.data.toList[0]? = some (s[0]'h0) := by rw [List.getElem?_eq_getElem (by rw [Array.length_toList]; exact h0)]; rfl
  rw [List.head?_eq_getElem?, h1] at hn
  have h2 : s[0]'h0 = 45 := by simpa using hn
  rw [h2]
  rfl
theorem neg_pos {s : ByteArray} (hn : neg s.data.toList = true) : 0 < s.size := by
  rcases Nat.eq_zero_or_pos s.size with h | h
  · have : s.data.toList = [] := List.eq_nil_of_length_eq_zero (by rw [Array.length_toList]; exact h)
    rw [this] at hn
    cases hn
  · exact h
theorem beq_str (a b : ByteArray) : (a.toList == b.toList) = decide (a = b) := by
  rw [ByteArray.toList_eq, ByteArray.toList_eq, Bool.eq_iff_iff, beq_iff_eq, decide_eq_true_iff]
  exact ⟨fun h => by rw [← bs_data a, h, bs_data], fun h => by rw [h]⟩
set_option maxHeartbeats 4000000 in
set_option maxRecDepth 100000 in
theorem spec_l01Read (s : ByteArray) (hs : s.size ≤ 4294967280) (w : World) :
    Calls Tryd.prog 32 #[.string s] w fun e w' => e = .returned (.tuple #[.int .i64 (readNum s).1, .bool (readNum s).2]) ∧ Below w.heap.size w w' := by
  by_cases hneg : neg s.data.toList = true
  · have h0 := neg_pos hneg
    have hd : digs s.data.toList = (s.extract 1 s.size).data.toList := by
      unfold digs
      rw [if_pos hneg, extract_bs, bs_list, List.take_of_length_le (by rw [Array.length_toList]; exact Nat.le_refl _), List.drop_one]
    have hg := hneg
    have hsz : (s.extract 1 s.size).size = s.size - 1 := by rw [ByteArray.size_extract]; omega
    have hr : readNum s = if 1 ≤ (s.extract 1 s.size).size ∧ (s.extract 1 s.size).size ≤ 10 ∧ (s.extract 1 s.size).data.toList.all isDig = true then ((-val 0 (s.extract 1 s.size).data.toList), decide (num (-val 0 (s.extract 1 s.size).data.toList) = s)) else (0, false) := by
      unfold readNum
      rw [hd, hg]
      rfl
    have HR := Lib.hid hr
    clear hr
    by_cases hin : 1 ≤ (s.extract 1 s.size).size ∧ (s.extract 1 s.size).size ≤ 10
    · have hI : inB ((s.size - 1 : Nat) : Int) 1 10 = true := by unfold inB; simp; omega
      have hx := head_eq h0 hneg
      go_enter Tryd.func32, Tryd.ntmps32
      go_wp2_with (go_at_call 41; refine (spec_l01In _ _ _ _).mono ?_; rintro e w' ⟨rfl, rfl⟩; rw [hI])
      go_loopw [5, 6] (fun a x wr => ∃ i : Nat, a = .int .i64 (val 0 ((s.extract 1 s.size).data.toList.take i)) ∧ x = .int .i64 i ∧ i ≤ (s.extract 1 s.size).size ∧ ((s.extract 1 s.size).data.toList.take i).all isDig = true ∧ Below w.heap.size w wr) (fun _ x _ => (s.extract 1 s.size).size - (intOf x).toNat)
      case atStart => exact ⟨0, rfl, rfl, Nat.zero_le _, rfl, Below.refl _ _⟩
      case round =>
        obtain ⟨i, rfl, rfl, hi, hall, hb⟩ := hrel
        generalize s.extract 1 s.size = d at *
        have hv := val_range (d.data.toList.take i) 0 0 (List.all_eq_true.1 hall) (by omega) (by decide)
        have hv2 : (10 : Int) ^ (0 + (d.data.toList.take i).length) ≤ 10 ^ 10 := by
          have : (10 : Nat) ^ (0 + (d.data.toList.take i).length) ≤ 10 ^ 10 := Nat.pow_le_pow_right (by omega) (by rw [List.length_take, Array.length_toList]; exact Nat.le_trans (by omega) hin.2)
          exact_mod_cast this
        obtain ⟨v0, v1⟩ := hv
        have v2 : val 0 (d.data.toList.take i) < 10000000000 := by omega
        clear hv2 v1
        by_cases hlt : i < d.size
        · have HT := Lib.hid (take_byte d i hlt)
          obtain ⟨r2, r3⟩ := byte_range d i hlt
          have HA := Lib.hid hall
          clear hall
          by_cases hdig : isDig d[i] = true
          · have hd1 : (48 : Int) ≤ ((d[i].toNat : Nat) : Int) ∧ ((d[i].toNat : Nat) : Int) ≤ 57 := by
              simp only [isDig, Bool.and_eq_true, decide_eq_true_eq] at hdig; omega
            obtain ⟨d1, d2⟩ := hd1
            have HV := Lib.hid (show val 0 (d.data.toList.take (i + 1)) = 10 * val 0 (d.data.toList.take i) + ((d[i].toNat : Nat) : Int) - 48 from by rw [HT.out, val_append]; rfl)
            have HA2 := Lib.hid (show (d.data.toList.take (i + 1)).all isDig = true from by rw [HT.out, List.all_append, HA.out]; simp [hdig])
            clear hdig
            go_wp2
            exact ⟨⟨i + 1, congrArg (Value.int .i64) HV.out.symm, rfl, hlt, HA2.out, hb⟩, by simp only [intOf]; omega⟩
          · have hd1 : ((d[i].toNat : Nat) : Int) < 48 ∨ 57 < ((d[i].toNat : Nat) : Int) := by
              simp only [isDig, Bool.and_eq_true, decide_eq_true_eq] at hdig; omega
            have HQ := Lib.hid (show readNum s = (0, false) from by
              rw [HR.out, if_neg]
              rintro ⟨_, _, h⟩
              exact hdig (List.all_eq_true.1 h d[i] (by
                have := HT.out
                have hm : d[i] ∈ d.data.toList.take (i + 1) := by rw [this]; simp
                exact List.mem_of_mem_take hm)))
            clear hdig HR
            rcases hd1 with hd1 | hd1
            · go_wp2
              go_ret2
              exact ⟨ret_ib HQ.out.symm, hb⟩
            · have hd0 : ¬ ((d[i].toNat : Nat) : Int) < 48 := by omega
              go_wp2
              go_ret2
              exact ⟨ret_ib HQ.out.symm, hb⟩
        · obtain rfl : i = d.size := by omega
          have hfull : d.data.toList.take d.size = d.data.toList := List.take_of_length_le (by rw [Array.length_toList]; exact Nat.le_refl _)
          rw [hfull] at hall v0 v2 ⊢
          have HQ := Lib.hid (show readNum s = ((-val 0 d.data.toList), decide (num (-val 0 d.data.toList) = s)) from by rw [HR.out, if_pos ⟨hin.1, hin.2, hall⟩])
          generalize val 0 d.data.toList = x at *
          have HI := Lib.hid (show I64 (-x) from ⟨by omega, by omega⟩)
          clear hfull HR hall
          go_wp2_with (go_at_call 23; refine (spec_l01Num _ HI.out _).mono ?_; rintro e w2 ⟨rfl, hb2⟩; replace hb := below_of_le hb hb2)
          go_ret2
          exact ⟨ret_ib (by rw [HQ.out, beq_str]), hb⟩
    · have HQ := Lib.hid (show readNum s = (0, false) from by rw [HR.out, if_neg (fun h => hin ⟨h.1, h.2.1⟩)])
      have hI : inB ((s.size - 1 : Nat) : Int) 1 10 = false := by
        unfold inB
        rw [Bool.and_eq_false_iff]
        simp only [decide_eq_false_iff_not]
        omega
      have hx := head_eq h0 hneg
      go_enter Tryd.func32, Tryd.ntmps32
      go_wp2_with (go_at_call 41; refine (spec_l01In _ _ _ _).mono ?_; rintro e w' ⟨rfl, rfl⟩; rw [hI])
      go_ret2
      exact ⟨ret_ib HQ.out.symm, Below.refl _ _⟩
  · have hd : digs s.data.toList = s.data.toList := by unfold digs; rw [if_neg hneg]
    have hg : neg s.data.toList = false := by simpa using hneg

    have hr : readNum s = if 1 ≤ s.size ∧ s.size ≤ 10 ∧ s.data.toList.all isDig = true then ((val 0 s.data.toList), decide (num (val 0 s.data.toList) = s)) else (0, false) := by
      unfold readNum
      rw [hd, hg]
      rfl
    have HR := Lib.hid hr
    clear hr
    by_cases hin : 1 ≤ s.size ∧ s.size ≤ 10
    · have hI : inB (s.size : Int) 1 10 = true := by unfold inB; simp; omega
      have h0 : 0 < s.size := by omega
      have hx := head_ne h0 hneg
      go_enter Tryd.func32, Tryd.ntmps32
      go_wp2_with (go_at_call 41; refine (spec_l01In _ _ _ _).mono ?_; rintro e w' ⟨rfl, rfl⟩; rw [hI])
      go_loopw [5, 6] (fun a x wr => ∃ i : Nat, a = .int .i64 (val 0 (s.data.toList.take i)) ∧ x = .int .i64 i ∧ i ≤ s.size ∧ (s.data.toList.take i).all isDig = true ∧ Below w.heap.size w wr) (fun _ x _ => s.size - (intOf x).toNat)
      case atStart => exact ⟨0, rfl, rfl, Nat.zero_le _, rfl, Below.refl _ _⟩
      case round =>
        obtain ⟨i, rfl, rfl, hi, hall, hb⟩ := hrel
        have hv := val_range (s.data.toList.take i) 0 0 (List.all_eq_true.1 hall) (by omega) (by decide)
        have hv2 : (10 : Int) ^ (0 + (s.data.toList.take i).length) ≤ 10 ^ 10 := by
          have : (10 : Nat) ^ (0 + (s.data.toList.take i).length) ≤ 10 ^ 10 := Nat.pow_le_pow_right (by omega) (by rw [List.length_take, Array.length_toList]; exact Nat.le_trans (by omega) hin.2)
          exact_mod_cast this
        obtain ⟨v0, v1⟩ := hv
        have v2 : val 0 (s.data.toList.take i) < 10000000000 := by omega
        clear hv2 v1
        by_cases hlt : i < s.size
        · have HT := Lib.hid (take_byte s i hlt)
          obtain ⟨r2, r3⟩ := byte_range s i hlt
          have HA := Lib.hid hall
          clear hall
          by_cases hdig : isDig s[i] = true
          · have hd1 : (48 : Int) ≤ ((s[i].toNat : Nat) : Int) ∧ ((s[i].toNat : Nat) : Int) ≤ 57 := by
              simp only [isDig, Bool.and_eq_true, decide_eq_true_eq] at hdig; omega
            obtain ⟨d1, d2⟩ := hd1
            have HV := Lib.hid (show val 0 (s.data.toList.take (i + 1)) = 10 * val 0 (s.data.toList.take i) + ((s[i].toNat : Nat) : Int) - 48 from by rw [HT.out, val_append]; rfl)
            have HA2 := Lib.hid (show (s.data.toList.take (i + 1)).all isDig = true from by rw [HT.out, List.all_append, HA.out]; simp [hdig])
            clear hdig
            go_wp2
            exact ⟨⟨i + 1, congrArg (Value.int .i64) HV.out.symm, rfl, hlt, HA2.out, hb⟩, by simp only [intOf]; omega⟩
          · have hd1 : ((s[i].toNat : Nat) : Int) < 48 ∨ 57 < ((s[i].toNat : Nat) : Int) := by
              simp only [isDig, Bool.and_eq_true, decide_eq_true_eq] at hdig; omega
            have HQ := Lib.hid (show readNum s = (0, false) from by
              rw [HR.out, if_neg]
              rintro ⟨_, _, h⟩
              exact hdig (List.all_eq_true.1 h s[i] (by
                have := HT.out
                have hm : s[i] ∈ s.data.toList.take (i + 1) := by rw [this]; simp
                exact List.mem_of_mem_take hm)))
            clear hdig HR
            rcases hd1 with hd1 | hd1
            · go_wp2
              go_ret2
              exact ⟨ret_ib HQ.out.symm, hb⟩
            · have hd0 : ¬ ((s[i].toNat : Nat) : Int) < 48 := by omega
              go_wp2
              go_ret2
              exact ⟨ret_ib HQ.out.symm, hb⟩
        · obtain rfl : i = s.size := by omega
          have hfull : s.data.toList.take s.size = s.data.toList := List.take_of_length_le (by rw [Array.length_toList]; exact Nat.le_refl _)
          rw [hfull] at hall v0 v2 ⊢
          have HQ := Lib.hid (show readNum s = ((val 0 s.data.toList), decide (num (val 0 s.data.toList) = s)) from by rw [HR.out, if_pos ⟨hin.1, hin.2, hall⟩])
          generalize val 0 s.data.toList = x at *
          have HI := Lib.hid (show I64 (x) from ⟨by omega, by omega⟩)
          clear hfull HR hall
          go_wp2_with (go_at_call 23; refine (spec_l01Num _ HI.out _).mono ?_; rintro e w2 ⟨rfl, hb2⟩; replace hb := below_of_le hb hb2)
          go_ret2
          exact ⟨ret_ib (by rw [HQ.out, beq_str]), hb⟩
    · have HQ := Lib.hid (show readNum s = (0, false) from by rw [HR.out, if_neg (fun h => hin ⟨h.1, h.2.1⟩)])
      have hI : inB (s.size : Int) 1 10 = false := by
        unfold inB
        rw [Bool.and_eq_false_iff]
        simp only [decide_eq_false_iff_not]
        omega
      rcases Nat.eq_zero_or_pos s.size with hz | h0
      · have hz' : (s.size : Int) = 0 := by omega
        have hI0 : inB 0 1 10 = false := rfl
        go_enter Tryd.func32, Tryd.ntmps32
        go_wp2_with (go_at_call 41; refine (spec_l01In _ _ _ _).mono ?_; rintro e w' ⟨rfl, rfl⟩; rw [hI0])
        go_ret2
        exact ⟨ret_ib HQ.out.symm, Below.refl _ _⟩
      · have hx := head_ne h0 hneg
        go_enter Tryd.func32, Tryd.ntmps32
        go_wp2_with (go_at_call 41; refine (spec_l01In _ _ _ _).mono ?_; rintro e w' ⟨rfl, rfl⟩; rw [hI])
        go_ret2
        exact ⟨ret_ib HQ.out.symm, Below.refl _ _⟩
end Go.Proofs.YtcchjdmioeocdaaDoor
