/- Slices of elements that one owns (Own): opened, appended to, made, written, cut, and their steps in a walk. No condition. -/
import Derived.Test.YtcchjdmioeocdaaDoorR0
import Derived.Deep.AppendLies
import Derived.Laws.IdiomCopy
namespace Go.Proofs.YtcchjdmioeocdaaDoor
open Go.RowKit
section
variable {α : Type} {f : α → List Value} {sz : Nat}
theorem flat_len (hf : ∀ x, (f x).length = sz) : ∀ xs : List α, (xs.flatMap f).length = xs.length * sz
  | [] => by simp
  | x :: xs => by rw [List.flatMap_cons, List.length_append, flat_len hf xs, hf, List.length_cons, Nat.succ_mul, Nat.add_comm]
theorem flat_at (hf : ∀ x, (f x).length = sz) : ∀ (xs : List α) (j : Nat) (x : α) (i : Nat), xs[j]? = some x → i < sz → (xs.flatMap f)[j * sz + i]? = (f x)[i]?
  | [], j, x, i, h, _ => by simp at h
  | y :: xs, 0, x, i, h, hi => by
    obtain rfl : y = x := by simpa using h
    rw [List.flatMap_cons, Nat.zero_mul, Nat.zero_add, List.getElem?_append_left (by rw [hf]; exact hi)]
  | y :: xs, j + 1, x, i, h, hi => by
    rw [List.flatMap_cons, List.getElem?_append_right (by rw [hf, Nat.succ_mul]; omega), hf, Nat.succ_mul, show j * sz + sz + i - sz = j * sz + i by omega]
    exact flat_at hf xs j x i (by simpa using h) hi
theorem flat_set (hf : ∀ x, (f x).length = sz) : ∀ (xs : List α) (j : Nat) (y : α), j < xs.length → (xs.flatMap f).take (j * sz) ++ f y ++ (xs.flatMap f).drop (j * sz + sz) = (xs.set j y).flatMap f
  | [], j, y, h => by simp at h
  | x :: xs, 0, y, h => by
    rw [List.set_cons_zero, List.flatMap_cons, List.flatMap_cons, Nat.zero_mul, Nat.zero_add, List.take_zero, List.nil_append]
    conv => lhs; rw [← hf x, List.drop_left]
  | x :: xs, j + 1, y, h => by
    rw [List.set_cons_succ, List.flatMap_cons, List.flatMap_cons, ← flat_set hf xs j y (by simpa using h), Nat.succ_mul, Nat.add_comm (j * sz) sz, List.take_append, List.drop_append, hf,
      List.take_of_length_le (by rw [hf]; omega), List.drop_eq_nil_of_le (by rw [hf]; omega), List.nil_append, show sz + j * sz - sz = j * sz by omega, show sz + j * sz + sz - sz = sz + j * sz by omega]
    simp only [List.append_assoc]
theorem flat_take (hf : ∀ x, (f x).length = sz) : ∀ (xs : List α) (k : Nat), (xs.flatMap f).take (k * sz) = (xs.take k).flatMap f
  | [], k => by simp
  | x :: xs, 0 => by simp
  | x :: xs, k + 1 => by
    rw [List.take_succ_cons, List.flatMap_cons, List.flatMap_cons, ← flat_take hf xs k, Nat.succ_mul, Nat.add_comm, List.take_append, hf, List.take_of_length_le (by rw [hf]; omega), show sz + k * sz - sz = k * sz by omega]
theorem flat_drop (hf : ∀ x, (f x).length = sz) : ∀ (xs : List α) (k : Nat), (xs.flatMap f).drop (k * sz) = (xs.drop k).flatMap f
  | [], k => by simp
  | x :: xs, 0 => by simp
  | x :: xs, k + 1 => by
    rw [List.drop_succ_cons, List.flatMap_cons, ← flat_drop hf xs k, Nat.succ_mul, Nat.add_comm, List.drop_append, hf, List.drop_eq_nil_of_le (by rw [hf]; omega), List.nil_append, show sz + k * sz - sz = k * sz by omega]
/-- v owns the elements xs. -/
structure Own (e : TypeId) (f : α → List Value) (sz B : Nat) (w : World) (v : Value) (xs : List α) : Prop where
  raw : Raw e sz B w v xs.length (xs.flatMap f)
variable {e : TypeId} {B : Nat} {w w' : World} {v : Value} {xs : List α}
theorem Own.nil (e : TypeId) (f : α → List Value) (sz B : Nat) (w : World) (A : Option Addr) : Own e f sz B w (.slice A 0 0) [] := ⟨by simp, .inl ⟨rfl, A, rfl⟩⟩
theorem Own.open (hf : ∀ x, (f x).length = sz) (h : Own e f sz B w v xs) : ∃ A c, v = .slice A xs.length c ∧ xs.length ≤ c ∧ c ≤ maxLen ∧ Row f sz w A xs := by
  obtain ⟨A, c, rfl, h1, h2⟩ := h.raw.slice
  refine ⟨A, c, rfl, h1, h2, ⟨fun j x hx => ?_⟩⟩
  rcases h.raw.out with ⟨h0, _⟩ | ⟨g, o, cap, cur, he, _⟩
  · rw [List.length_eq_zero_iff.1 h0] at hx
    simp at hx
  · injection he with ha
    refine ⟨g, o * sz, ha, fun i u hu => ?_⟩
    have hi : i < sz := by have := (List.getElem?_eq_some_iff.1 hu).1; rwa [hf] at this
    obtain ⟨g', o', ha', hc⟩ := h.raw.cells (j * sz + i) u (by rw [flat_at hf xs j x i hx hi]; exact hu)
    rw [ha] at ha'
    injection ha' with ha'
    injection ha' with h3 h4
    subst h3; subst h4
    rw [← hc, Nat.add_assoc]
theorem Own.foot (h : Own e f sz B w v xs) (g : Nat) (hg : Proofs.YtcchjdmioeocdaaDoor.foot v = some g) : B ≤ g ∧ ∃ cur, w.heap[g]? = some (.cells cur e (0, 0)) := h.raw.foot g hg
theorem Own.lt (h : Own e f sz B w v xs) (g : Nat) (hg : Proofs.YtcchjdmioeocdaaDoor.foot v = some g) : g < w.heap.size := h.raw.lt g hg
theorem Own.keep (h : Own e f sz B w v xs) (hk : ∀ g, Proofs.YtcchjdmioeocdaaDoor.foot v = some g → w'.heap[g]? = w.heap[g]?) : Own e f sz B w' v xs := ⟨h.raw.keep hk⟩
theorem Own.below (h : Own e f sz B w v xs) (hb : Below w.heap.size w w') : Own e f sz B w' v xs := h.keep fun g hg => hb.block g (h.lt g hg)
theorem Own.drew (h : Own e f sz B w v xs) : Own e f sz B w.drew v xs := h.keep fun _ _ => rfl
theorem Own.alloc (h : Own e f sz B w v xs) (o : Obj) : Own e f sz B (w.alloc o) v xs := h.below ((Below.refl _ _).alloc (Nat.le_refl _) o)
theorem Own.mono {B' : Nat} (h : Own e f sz B w v xs) (hB : B' ≤ B) : Own e f sz B' w v xs := ⟨h.raw.mono hB⟩
theorem Own.up {B' : Nat} (h : Own e f sz B w v xs) (hB : ∀ g, Proofs.YtcchjdmioeocdaaDoor.foot v = some g → B' ≤ g) : Own e f sz B' w v xs := ⟨h.raw.up hB⟩
theorem Own.take {A : Option Addr} {c m k : Nat} (hf : ∀ x, (f x).length = sz) (h : Own e f sz B w (.slice A m c) xs) (hk : k ≤ xs.length) : Own e f sz B w (.slice A k c) (xs.take k) := by
  have := h.raw.take hk
  rw [flat_take hf] at this
  exact ⟨by rw [List.length_take, Nat.min_eq_left hk]; exact this⟩
theorem Own.drop {A : Option Addr} {c m k : Nat} (hf : ∀ x, (f x).length = sz) (h : Own e f sz B w (.slice A m c) xs) (hk : k ≤ xs.length) : Own e f sz B w (.slice (if c = k then A else A.map (·.add (k * sz))) (xs.length - k) (c - k)) (xs.drop k) := by
  have := h.raw.drop hk
  rw [flat_drop hf] at this
  exact ⟨by rw [List.length_drop]; exact this⟩
/-- Cells of element j written: vs from its cell i on. -/
theorem Own.put {A : Option Addr} {m c : Nat} (hf : ∀ x, (f x).length = sz) (h : Own e f sz B w (.slice A m c) xs) (j : Nat) (x y : α) (i : Nat) (vs : List Value) (hj : xs[j]? = some x) (hv : 0 < vs.length) (hi : i + vs.length ≤ sz) (hy : f y = (f x).take i ++ vs ++ (f x).drop (i + vs.length)) :
    ∃ g o, A = some ⟨g, o, none⟩ ∧ Proofs.YtcchjdmioeocdaaDoor.foot (.slice A m c) = some g ∧ Own e f sz B (w.setCells g (o + j * sz + i) vs) (.slice A m c) (xs.set j y) := by
  have hjl := (List.getElem?_eq_some_iff.1 hj).1
  have hle : j * sz + sz ≤ xs.length * sz := by rw [← Nat.succ_mul]; exact Nat.mul_le_mul_right _ hjl
  obtain ⟨A', c', he, _⟩ := h.raw.slice
  injection he with _ hm
  subst hm
  obtain ⟨g, o, ha, hft, hr⟩ := h.raw.set (j * sz + i) vs (by rw [flat_len hf]; omega) hv
  refine ⟨g, o, ha, hft, ?_⟩
  rw [Nat.add_assoc]
  refine ⟨?_⟩
  rw [List.length_set]
  have : (xs.set j y).flatMap f = (xs.flatMap f).take (j * sz + i) ++ vs ++ (xs.flatMap f).drop (j * sz + i + vs.length) := by
    rw [← flat_set hf xs j y hjl, hy]
    apply List.ext_getElem?
    intro k
    have hl := flat_len hf xs
    have hfx := hf x
    have key : ∀ i', i' < sz → (xs.flatMap f)[j * sz + i']? = (f x)[i']? := fun i' hi' => flat_at hf xs j x i' hj hi'
    simp only [List.getElem?_append, List.getElem?_take, List.getElem?_drop, List.length_append, List.length_take, List.length_drop, hl, hfx]
    by_cases h1 : k < j * sz
    · rw [if_pos (by omega), if_pos (by omega), if_pos h1, if_pos (by omega), if_pos (by omega), if_pos (by omega)]
    · by_cases h2 : k < j * sz + i
      · rw [if_pos (by omega), if_neg (by omega), if_pos (by omega), if_pos (by omega), if_pos (by omega), if_pos (by omega), if_pos (by omega), if_pos (by omega)]
        rw [← key _ (by omega)]
        congr 1
        omega
      · by_cases h3 : k < j * sz + i + vs.length
        · rw [if_pos (by omega), if_neg (by omega), if_pos (by omega), if_neg (by omega), if_pos (by omega), if_neg (by omega)]
          congr 1
          omega
        · by_cases h4 : k < j * sz + sz
          · rw [if_pos (by omega), if_neg (by omega), if_neg (by omega), if_neg (by omega)]
            rw [← key _ (by omega)]
            congr 1
            omega
          · rw [if_neg (by omega), if_neg (by omega)]
            congr 1
            omega
  rw [this]
  exact hr
theorem Own.made (z : Value) (x0 : α) (n : Nat) (hz : f x0 = z.cells.toList) (hs : z.cells.size = sz) (h0 : 0 < sz) (hB : B ≤ w.heap.size) (hn : n ≤ maxLen) :
    Own e f sz B (w.alloc (.cells (madeCells z.cells (n * sz)) e)) (.slice (some ⟨w.heap.size, 0, none⟩) n n) (List.replicate n x0) := by
  refine ⟨?_⟩
  rw [List.length_replicate]
  have hfl : ∀ n : Nat, ((List.replicate n x0).flatMap f).length = n * sz := fun n => by
    simp [List.length_flatMap, hz, hs]
  refine raw_own ⟨hfl n, .inr ⟨w.heap.size, n, _, rfl, hB, heap_new w _, Nat.le_refl _, hn, by rw [size_madeCells], ?_⟩⟩
  rw [List.take_of_length_le (by simp [size_madeCells])]
  apply List.ext_getElem?
  intro k
  by_cases hk : k < n * sz
  · have hd : k / sz < n := Nat.div_lt_of_lt_mul (by rw [Nat.mul_comm]; exact hk)
    have hm : k % sz < sz := Nat.mod_lt _ h0
    have hall : ∀ (n j i : Nat), j < n → i < sz → ((List.replicate n x0).flatMap f)[j * sz + i]? = (f x0)[i]? := by
      intro n
      induction n with
      | zero => intro j i h; omega
      | succ n ih =>
        intro j i hj hi
        rw [List.replicate_succ, List.flatMap_cons]
        have hl : (f x0).length = sz := by rw [hz]; simpa using hs
        cases j with
        | zero => rw [Nat.zero_mul, Nat.zero_add, List.getElem?_append_left (by omega)]
        | succ j => rw [List.getElem?_append_right (by rw [hl, Nat.succ_mul]; omega), hl, Nat.succ_mul, show j * sz + sz + i - sz = j * sz + i by omega]; exact ih j i (by omega) hi
    have hk2 : k = k / sz * sz + k % sz := by rw [Nat.mul_comm]; exact (Nat.div_add_mod k sz).symm
    rw [hk2, hall n _ _ hd hm, hz, ← hk2]
    have hsz : k < (madeCells z.cells (n * sz)).toList.length := by rw [Array.length_toList, size_madeCells]; exact hk
    rw [List.getElem?_eq_getElem hsz]
    have hm2 : k % z.cells.size < z.cells.size := by rw [hs]; exact hm
    simp [madeCells, hs, getElem!_pos, hm]
  · rw [List.getElem?_eq_none (by rw [Array.length_toList, size_madeCells]; omega), List.getElem?_eq_none (by rw [hfl]; omega)]
theorem Own.lit (cs : Array Value) (hf : ∀ x, (f x).length = sz) (hc : cs.toList = xs.flatMap f) (hB : B ≤ w.heap.size) (hn : xs.length ≤ maxLen) : Own e f sz B (w.alloc (.cells cs e)) (.slice (some ⟨w.heap.size, 0, none⟩) xs.length xs.length) xs :=
  ⟨raw_own ⟨flat_len hf xs, .inr ⟨w.heap.size, xs.length, cs, rfl, hB, heap_new w _, Nat.le_refl _, hn, by rw [← Array.length_toList, hc, flat_len hf], by rw [hc, ← flat_len hf]; exact List.take_length⟩⟩⟩
end
section
variable {P : Program} {ops : Array Oper} {rest : List Oper} {o : Oper} {a : Act} {Q : Exit → Act → World → Prop} {K : Act → World → Prop} {α : Type} {f : α → List Value} {sz : Nat}
theorem own_append (hf : ∀ x, (f x).length = sz) (W : World) (B : Nat) (t ty e : TypeId) (z : Value) (bytes : Nat) (ht : P.underlying t = some (.slice e)) (hinfo : (P.info? e).map (fun i => (i.zero, i.size, i.bytes)) = some (some z, sz, bytes)) (hzs : z.cells.size = sz) (hsz : 0 < sz)
    (v : Value) (xs : List α) (y : α) (cs : Array Value) (hcs : cs.toList = f y) (h1 : ∀ u ∈ f y, u.oneCell' = true) (hown : Own e f sz B W v xs) (hb0 : 0 < bytes) (hbytes : (xs.length + 1) * bytes ≤ 140737488355328) (hbase : B ≤ W.heap.size) :
    ∃ v' w', (Builtin.append_ #[t, t] ty #[v, .slice (some ⟨W.heap.size, 0, none⟩) 1 1]).run P (W.alloc (.cells cs e)) = .ok v' w' ∧ Own e f sz B w' v' (xs ++ [y]) ∧ Grew W w' v v' := by
  have hlen : xs.length + 1 ≤ 140737488355328 := Nat.le_trans (Nat.le_mul_of_pos_right _ hb0) hbytes
  obtain ⟨v', w', hr, ho, hg⟩ := raw_append (P := P) (W.alloc (.cells cs e)) B t ty e z sz bytes ht hinfo hzs hsz v xs.length (xs.flatMap f) (hown.alloc _).raw ⟨W.heap.size, 0, none⟩ 1 1 (f y) (by rw [hf, Nat.one_mul])
    (by rw [← hcs]; exact World.news_of_block (cs := cs) (t := e) (fr := (0, 0)) (heap_new W (.cells cs e))) h1 (by omega) (by simp only [maxLen]; omega) hbytes (by simp; omega)
  refine ⟨v', w', hr, ⟨by rw [List.length_append, List.length_singleton, List.flatMap_append, List.flatMap_singleton]; exact ho⟩, hg.os, hg.tape, hg.output, Nat.le_trans (by simp) hg.size, fun k hk hne => (hg.block k (by simp; omega) hne).trans (Below.heap_alloc W _ k hk), ?_⟩
  rcases hg.at_ with h | ⟨b, h, h2⟩
  · exact .inl h
  · exact .inr ⟨b, h, Nat.le_trans (by simp) h2⟩
theorem wp_append (hf : ∀ x, (f x).length = sz) (W : World) (B : Nat) (hgd : o.guard = none) (s x : Operand) (t e : TypeId) (z : Value) (bytes : Nat)
    (ho : o.op = .call { callee := .builtin .append, args := #[s, x], argTypes := #[t, t] })
    (ht : P.underlying t = some (.slice e)) (hinfo : (P.info? e).map (fun i => (i.zero, i.size, i.bytes)) = some (some z, sz, bytes)) (hzs : z.cells.size = sz) (hsz : 0 < sz) (hb0 : 0 < bytes)
    (v : Value) (xs : List α) (y : α) (cs : Array Value) (hs : a.eval s = v) (hx : a.eval x = .slice (some ⟨W.heap.size, 0, none⟩) 1 1) (hcs : cs.toList = f y) (h1 : ∀ u ∈ f y, u.oneCell' = true) (hown : Own e f sz B W v xs) (hbytes : (xs.length + 1) * bytes ≤ 140737488355328) (hbase : B ≤ W.heap.size)
    (h : ∀ v' w', Own e f sz B w' v' (xs ++ [y]) → Grew W w' v v' → wpList P ops Q rest (a.put o.dst v') w') : wpList P ops Q (o :: rest) a (W.alloc (.cells cs e)) := by
  obtain ⟨v', w', hr, h2, h3⟩ := own_append (P := P) hf W B t o.type e z bytes ht hinfo hzs hsz v xs y cs hcs h1 hown hb0 hbytes hbase
  refine wpList_plain hgd fun K hK => ?_
  unfold Oper.wp execOp
  simp only [ho, resolve, invoke, builtin, Sem.run_bind, Sem.run_pure, Result.andThen_ok, List.map_toArray, List.map_cons, List.map_nil, hs, hx, hr]
  exact hK _ _ (h v' w' h2 h3)
theorem step_append (hf : ∀ x, (f x).length = sz) (W : World) (B : Nat) (hw : Region.wanted o (yielded ops a.tmps) = true) (s x : Operand) (t e : TypeId) (z : Value) (bytes : Nat)
    (ho : o.op = .call { callee := .builtin .append, args := #[s, x], argTypes := #[t, t] })
    (ht : P.underlying t = some (.slice e)) (hinfo : (P.info? e).map (fun i => (i.zero, i.size, i.bytes)) = some (some z, sz, bytes)) (hzs : z.cells.size = sz) (hsz : 0 < sz) (hb0 : 0 < bytes)
    (v : Value) (xs : List α) (y : α) (cs : Array Value) (hs : a.eval s = v) (hx : a.eval x = .slice (some ⟨W.heap.size, 0, none⟩) 1 1) (hcs : cs.toList = f y) (h1 : ∀ u ∈ f y, u.oneCell' = true) (hown : Own e f sz B W v xs) (hbytes : (xs.length + 1) * bytes ≤ 140737488355328) (hbase : B ≤ W.heap.size)
    (h : ∀ v' w', Own e f sz B w' v' (xs ++ [y]) → Grew W w' v v' → K (a.put o.dst v') w') : if Region.wanted o (yielded ops a.tmps) = true then Oper.wp P o a (W.alloc (.cells cs e)) K Q else K (a.put o.dst undef) (W.alloc (.cells cs e)) := by
  obtain ⟨v', w', hr, h2, h3⟩ := own_append (P := P) hf W B t o.type e z bytes ht hinfo hzs hsz v xs y cs hcs h1 hown hb0 hbytes hbase
  rw [if_pos hw]
  unfold Oper.wp execOp
  simp only [ho, resolve, invoke, builtin, Sem.run_bind, Sem.run_pure, Result.andThen_ok, List.map_toArray, List.map_cons, List.map_nil, hs, hx, hr]
  exact h v' w' h2 h3
end
theorem Own.there {α : Type} {f : α → List Value} {sz : Nat} {e : TypeId} {B : Nat} {w : World} {g o m c : Nat} {xs : List α} (hf : ∀ x, (f x).length = sz) (h : Own e f sz B w (.slice (some ⟨g, o, none⟩) m c) xs) (j : Nat) (hj : j < xs.length) (i : Nat) (hi : i < sz) : (w.cell? ⟨g, o + j * sz + i, none⟩).isSome = true ∧ w.frozen? ⟨g, o + j * sz + i, none⟩ = false := by
  obtain ⟨A, c', he, _, _, hr⟩ := h.open hf
  injection he with ha
  obtain ⟨g', o', hA, hc⟩ := hr.out j xs[j] (by simp [hj])
  rw [← ha] at hA
  injection hA with hA
  injection hA with h1 h2
  subst h1; subst h2
  have hu : (f xs[j])[i]? = some ((f xs[j])[i]'(by rw [hf]; exact hi)) := List.getElem?_eq_getElem _
  refine ⟨by rw [hc i _ hu]; rfl, ?_⟩
  rcases h.raw.out with ⟨h0, _⟩ | ⟨g', o', cap, cur, he, _, _, hh, _⟩
  · omega
  · injection he with ha
    injection ha with ha
    injection ha with h1 h2
    subst h1
    exact blk_frozen hh _
/-- An element stored whole. -/
theorem store_run {P : Program} {α : Type} {f : α → List Value} {sz : Nat} {e : TypeId} {B : Nat} {w : World} {g o m c : Nat} {xs : List α} (hf : ∀ x, (f x).length = sz) (h : Own e f sz B w (.slice (some ⟨g, o, none⟩) m c) xs) (j : Nat) (hj : j < xs.length) (y : α) (h0 : 0 < sz) (h1 : ∀ u ∈ f y, u.oneCell' = true) :
    (storeCells ⟨g, o + j * sz, none⟩ (f y) 0).run P w = .ok () (w.setCells g (o + j * sz) (f y)) ∧ Own e f sz B (w.setCells g (o + j * sz) (f y)) (.slice (some ⟨g, o, none⟩) m c) (xs.set j y) := by
  constructor
  · have := run_storeCells_cells (P := P) g (o + j * sz) (f y) 0 w (fun i hi => by rw [hf] at hi; rw [Nat.add_zero]; exact (h.there hf j hj i hi).1) (fun i hi => by rw [hf] at hi; rw [Nat.add_zero]; exact (h.there hf j hj i hi).2) h1
    rw [Nat.add_zero] at this
    exact this
  · obtain ⟨g', o', ha, _, hr⟩ := h.put hf j xs[j] y 0 (f y) (by simp [hj]) (by rw [hf]; exact h0) (by rw [hf]; omega) (by rw [List.take_zero, List.nil_append, Nat.zero_add, hf, ← hf xs[j], List.drop_length, List.append_nil])
    injection ha with ha
    injection ha with h1 h2
    subst h1; subst h2
    exact hr
theorem setCells_below {B g : Nat} {w0 w : World} (h : Below B w0 w) (o : Nat) (vs : List Value) (hg : B ≤ g) : Below B w0 (w.setCells g o vs) := by
  obtain ⟨s1, s2, s3, s4⟩ := setCells_same g vs o w
  exact h.trans ⟨s1, s2, s3, by rw [s4]; exact Nat.le_refl _, fun k hk => setCells_far vs o k (by omega)⟩
theorem fill_set {α : Type} (xs : List α) (x0 x : α) (i : Nat) (hx : xs[i]? = some x) : (xs.take i ++ List.replicate (xs.length - i) x0).set i x = xs.take (i + 1) ++ List.replicate (xs.length - (i + 1)) x0 := by
  have hi := (List.getElem?_eq_some_iff.1 hx).1
  have hl : (xs.take i).length = i := by rw [List.length_take]; omega
  rw [List.set_append_right _ _ (by omega), hl, Nat.sub_self, show xs.length - i = (xs.length - (i + 1)) + 1 by omega, List.replicate_succ, List.set_cons_zero, List.take_add_one, hx]
  simp
theorem lies1 {w : World} {g a : Nat} {x0 : Value} (h : ∀ (i : Nat) u, ([x0] : List Value)[i]? = some u → w.cell? ⟨g, a + i, none⟩ = some u) : w.cell? ⟨g, a, none⟩ = some x0 := h 0 _ rfl
theorem lies2 {w : World} {g a : Nat} {x0 x1 : Value} (h : ∀ (i : Nat) u, ([x0, x1] : List Value)[i]? = some u → w.cell? ⟨g, a + i, none⟩ = some u) : w.cell? ⟨g, a, none⟩ = some x0 ∧ w.cell? ⟨g, a + 1, none⟩ = some x1 := ⟨h 0 _ rfl, h 1 _ rfl⟩
theorem lies3 {w : World} {g a : Nat} {x0 x1 x2 : Value} (h : ∀ (i : Nat) u, ([x0, x1, x2] : List Value)[i]? = some u → w.cell? ⟨g, a + i, none⟩ = some u) : w.cell? ⟨g, a, none⟩ = some x0 ∧ w.cell? ⟨g, a + 1, none⟩ = some x1 ∧ w.cell? ⟨g, a + 2, none⟩ = some x2 := ⟨h 0 _ rfl, h 1 _ rfl, h 2 _ rfl⟩
theorem lies4 {w : World} {g a : Nat} {x0 x1 x2 x3 : Value} (h : ∀ (i : Nat) u, ([x0, x1, x2, x3] : List Value)[i]? = some u → w.cell? ⟨g, a + i, none⟩ = some u) : w.cell? ⟨g, a, none⟩ = some x0 ∧ w.cell? ⟨g, a + 1, none⟩ = some x1 ∧ w.cell? ⟨g, a + 2, none⟩ = some x2 ∧ w.cell? ⟨g, a + 3, none⟩ = some x3 := ⟨h 0 _ rfl, h 1 _ rfl, h 2 _ rfl, h 3 _ rfl⟩
theorem lies5 {w : World} {g a : Nat} {x0 x1 x2 x3 x4 : Value} (h : ∀ (i : Nat) u, ([x0, x1, x2, x3, x4] : List Value)[i]? = some u → w.cell? ⟨g, a + i, none⟩ = some u) : w.cell? ⟨g, a, none⟩ = some x0 ∧ w.cell? ⟨g, a + 1, none⟩ = some x1 ∧ w.cell? ⟨g, a + 2, none⟩ = some x2 ∧ w.cell? ⟨g, a + 3, none⟩ = some x3 ∧ w.cell? ⟨g, a + 4, none⟩ = some x4 := ⟨h 0 _ rfl, h 1 _ rfl, h 2 _ rfl, h 3 _ rfl, h 4 _ rfl⟩
theorem lies6 {w : World} {g a : Nat} {x0 x1 x2 x3 x4 x5 : Value} (h : ∀ (i : Nat) u, ([x0, x1, x2, x3, x4, x5] : List Value)[i]? = some u → w.cell? ⟨g, a + i, none⟩ = some u) : w.cell? ⟨g, a, none⟩ = some x0 ∧ w.cell? ⟨g, a + 1, none⟩ = some x1 ∧ w.cell? ⟨g, a + 2, none⟩ = some x2 ∧ w.cell? ⟨g, a + 3, none⟩ = some x3 ∧ w.cell? ⟨g, a + 4, none⟩ = some x4 ∧ w.cell? ⟨g, a + 5, none⟩ = some x5 := ⟨h 0 _ rfl, h 1 _ rfl, h 2 _ rfl, h 3 _ rfl, h 4 _ rfl, h 5 _ rfl⟩
theorem make_run {P : Program} (t e : TypeId) (z : Value) (sz bytes : Nat) (ht : P.underlying t = some (.slice e)) (hinfo : (P.info? e).map (fun i => (i.zero, i.size, i.bytes)) = some (some z, sz, bytes)) (n : Nat) (hb : bytes * n ≤ 281474976710656) (hn : n ≤ maxLen) (W : World) :
    (Instr.makeSlice t (.int .i64 (n : Int)) (.int .i64 (n : Int))).run P W = .ok (.slice (some ⟨W.heap.size, 0, none⟩) n n) (W.alloc (.cells (madeCells z.cells (n * sz)) e)) := by
  obtain ⟨i, hi, hzz⟩ := Option.map_eq_some_iff.1 hinfo
  simp only [Prod.mk.injEq] at hzz
  obtain ⟨hz, hs, hbb⟩ := hzz
  have := run_make (P := P) W t e i z ht hi hz .i64 .i64 (n : Int) (n : Int) (by omega) (by omega) (by rw [hbb, ← Int.natCast_mul]; omega) (by have : maxLen = 9223372036854775807 := rfl; omega)
  rw [Int.toNat_natCast, hs] at this
  exact this
end Go.Proofs.YtcchjdmioeocdaaDoor
