/- Slices: read (Row), owned (Raw: cells, Own: elements): kept, appended to, made, written, cut. No condition. -/
import Derived.Test.YtcchjdmioeocdaaDoorB0
import Derived.ArgAppend
import Derived.Maps.AppendAt
import Derived.Laws.MakeOwn
import Derived.Deep.Upon
namespace Go.Proofs.YtcchjdmioeocdaaDoor
open Go.RowKit
/-- A slice's elements, as they are read: f tells an element's cells. -/
structure Row {α : Type} (f : α → List Value) (sz : Nat) (w : World) (A : Option Addr) (xs : List α) : Prop where
  out : ∀ (j : Nat) x, xs[j]? = some x → ∃ g o, A = some ⟨g, o, none⟩ ∧ ∀ i u, (f x)[i]? = some u → w.cell? ⟨g, o + j * sz + i, none⟩ = some u
theorem Row.below {α : Type} {f : α → List Value} {sz : Nat} {w w' : World} {A : Option Addr} {xs : List α} (h : Row f sz w A xs) (hb : Below w.heap.size w w') : Row f sz w' A xs :=
  ⟨fun j x hx => by
    obtain ⟨g, o, hA, hc⟩ := h.out j x hx
    exact ⟨g, o, hA, fun i u hu => keep_cell hb (hc i u hu)⟩⟩
theorem Row.nil {α : Type} (f : α → List Value) (sz : Nat) (w : World) (A : Option Addr) : Row f sz w A [] := ⟨fun j x hx => by simp at hx⟩
/-- The block that a slice value may write to. -/
def foot : Value → Option Nat
  | .slice (some a) _ (_ + 1) => some a.block
  | _ => none
theorem heap_new (w : World) (o : Obj) : (w.alloc o).heap[w.heap.size]? = some o := by
  show (w.heap.push o)[w.heap.size]? = some o
  simp
theorem blk_frozen {w : World} {g : Nat} {t : TypeId} {cs : Array Value} (h : w.heap[g]? = some (.cells cs t (0, 0))) (i : Nat) : w.frozen? ⟨g, i, none⟩ = false := by simp [World.frozen?, h]
theorem blk_set {w : World} {g : Nat} {t : TypeId} {cs : Array Value} (h : w.heap[g]? = some (.cells cs t (0, 0))) (i : Nat) (u : Value) : (w.setCell ⟨g, i, none⟩ u).heap[g]? = some (.cells (cs.setIfInBounds i u) t (0, 0)) := by
  simp [World.setCell, Array.getElem?_modify, h]
theorem add_at (g o j : Nat) : (⟨g, o, none⟩ : Addr).add j = ⟨g, o + j, none⟩ := by unfold Addr.add; split <;> simp_all
theorem cell_at {w : World} {g : Nat} {t : TypeId} {cs : Array Value} (h : w.heap[g]? = some (.cells cs t (0, 0))) (i : Nat) : w.cell? ⟨g, i, none⟩ = cs[i]? := by simp [World.cell?, h]
/-- v owns the n * sz cells cs. -/
structure Raw (e : TypeId) (sz B : Nat) (w : World) (v : Value) (n : Nat) (cs : List Value) : Prop where
  len : cs.length = n * sz
  out : (n = 0 ∧ ∃ A, v = .slice A 0 0) ∨ ∃ g o cap cur, v = .slice (some ⟨g, o * sz, none⟩) n cap ∧ 0 < cap ∧ B ≤ g ∧ w.heap[g]? = some (.cells cur e (0, 0)) ∧ n ≤ cap ∧ o + cap ≤ maxLen ∧ cur.size = (o + cap) * sz ∧ (cur.toList.drop (o * sz)).take (n * sz) = cs
section
variable {e : TypeId} {sz B n : Nat} {w w' : World} {v : Value} {cs : List Value}
theorem raw_own {B n : Nat} {cs : List Value} (h : w.ownsRow B e sz v n cs) : Raw e sz B w v n cs := by
  obtain ⟨h1, h2⟩ := h
  refine ⟨h1, ?_⟩
  rcases h2 with ⟨rfl, rfl⟩ | ⟨g, cap, cur, rfl, hb, hh, hnc, hcm, hcs, ht⟩
  · exact .inl ⟨rfl, none, rfl⟩
  · rcases Nat.eq_zero_or_pos cap with h0 | h0
    · subst h0
      obtain rfl : n = 0 := by omega
      exact .inl ⟨rfl, _, rfl⟩
    · exact .inr ⟨g, 0, cap, cur, by rw [Nat.zero_mul], h0, hb, hh, hnc, by rw [Nat.zero_add]; exact hcm, by rw [Nat.zero_add]; exact hcs, by rw [Nat.zero_mul, List.drop_zero]; exact ht⟩
theorem Raw.slice (h : Raw e sz B w v n cs) : ∃ A c, v = .slice A n c ∧ n ≤ c ∧ c ≤ maxLen := by
  rcases h.out with ⟨rfl, A, rfl⟩ | ⟨g, o, cap, cur, rfl, _, _, _, hnc, hm, _⟩
  · exact ⟨A, 0, rfl, Nat.le_refl _, Nat.zero_le _⟩
  · exact ⟨_, cap, rfl, hnc, by omega⟩
theorem Raw.foot (h : Raw e sz B w v n cs) (g : Nat) (hg : foot v = some g) : B ≤ g ∧ ∃ cur, w.heap[g]? = some (.cells cur e (0, 0)) := by
  rcases h.out with ⟨rfl, A, rfl⟩ | ⟨g', o, cap, cur, rfl, hc, hb, hh, _⟩
  · cases A <;> simp [foot] at hg
  · cases cap with
    | zero => omega
    | succ c =>
      simp [Proofs.YtcchjdmioeocdaaDoor.foot] at hg
      subst hg
      exact ⟨hb, cur, hh⟩
theorem Raw.lt (h : Raw e sz B w v n cs) (g : Nat) (hg : Proofs.YtcchjdmioeocdaaDoor.foot v = some g) : g < w.heap.size := by
  obtain ⟨_, cur, hc⟩ := h.foot g hg
  exact (Array.getElem?_eq_some_iff.1 hc).1
theorem Raw.keep (h : Raw e sz B w v n cs) (hk : ∀ g, Proofs.YtcchjdmioeocdaaDoor.foot v = some g → w'.heap[g]? = w.heap[g]?) : Raw e sz B w' v n cs := by
  refine ⟨h.len, ?_⟩
  rcases h.out with hl | ⟨g, o, cap, cur, rfl, hc, hb, hh, r⟩
  · exact .inl hl
  · refine .inr ⟨g, o, cap, cur, rfl, hc, hb, (hk g ?_).trans hh, r⟩
    cases cap with
    | zero => omega
    | succ c => rfl
theorem Raw.mono {B' : Nat} (h : Raw e sz B w v n cs) (hB : B' ≤ B) : Raw e sz B' w v n cs := by
  refine ⟨h.len, ?_⟩
  rcases h.out with hl | ⟨g, o, cap, cur, rfl, hc, hb, r⟩
  · exact .inl hl
  · exact .inr ⟨g, o, cap, cur, rfl, hc, Nat.le_trans hB hb, r⟩
theorem Raw.up {B' : Nat} (h : Raw e sz B w v n cs) (hB : ∀ g, Proofs.YtcchjdmioeocdaaDoor.foot v = some g → B' ≤ g) : Raw e sz B' w v n cs := by
  refine ⟨h.len, ?_⟩
  rcases h.out with hl | ⟨g, o, cap, cur, rfl, hc, hb, r⟩
  · exact .inl hl
  · refine .inr ⟨g, o, cap, cur, rfl, hc, hB g ?_, r⟩
    cases cap with
    | zero => omega
    | succ c => rfl
theorem Raw.cells {A : Option Addr} {m c : Nat} (h : Raw e sz B w (.slice A m c) n cs) (j : Nat) (u : Value) (hu : cs[j]? = some u) : ∃ g o, A = some ⟨g, o, none⟩ ∧ w.cell? ⟨g, o + j, none⟩ = some u := by
  rcases h.out with ⟨h0, A, _⟩ | ⟨g, o, cap, cur, he, _, _, hh, _, _, _, ht⟩
  · have := h.len
    rw [h0, Nat.zero_mul] at this
    rw [List.length_eq_zero_iff.1 this] at hu
    simp at hu
  · injection he with ha
    refine ⟨g, o * sz, ha, ?_⟩
    rw [cell_at hh]
    rw [← ht, List.getElem?_take] at hu
    split at hu
    · rw [List.getElem?_drop] at hu
      rw [← Array.getElem?_toList]
      exact hu
    · cases hu
theorem setCells_far {g : Nat} : ∀ (vs : List Value) (o : Nat) {w : World} (k : Nat), k ≠ g → (w.setCells g o vs).heap[k]? = w.heap[k]?
  | [], _, _, _, _ => rfl
  | v :: r, o, w, k, hk => by
    rw [World.setCells, setCells_far r (o + 1) k hk]
    exact Below.heap_setCell w ⟨g, o, none⟩ v k hk
theorem setCells_same (g : Nat) : ∀ (vs : List Value) (o : Nat) (w : World), (w.setCells g o vs).os = w.os ∧ (w.setCells g o vs).tape = w.tape ∧ (w.setCells g o vs).output = w.output ∧ (w.setCells g o vs).heap.size = w.heap.size
  | [], _, _ => ⟨rfl, rfl, rfl, rfl⟩
  | v :: r, o, w => by
    obtain ⟨h1, h2, h3, h4⟩ := setCells_same g r (o + 1) (w.setCell ⟨g, o, none⟩ v)
    rw [World.setCells]
    exact ⟨h1, h2, h3, by rw [h4]; simp [World.setCell]⟩
theorem setCells_row {g : Nat} {e : TypeId} : ∀ (vs : List Value) (o : Nat) (w : World) (cur : Array Value), w.heap[g]? = some (.cells cur e (0, 0)) → o + vs.length ≤ cur.size →
    ∃ cur', (w.setCells g o vs).heap[g]? = some (.cells cur' e (0, 0)) ∧ cur'.size = cur.size ∧ cur'.toList = cur.toList.take o ++ vs ++ cur.toList.drop (o + vs.length)
  | [], o, w, cur, h, _ => ⟨cur, h, rfl, by simp⟩
  | v :: r, o, w, cur, h, hl => by
    have h2 := blk_set h o v
    simp only [List.length_cons] at hl
    obtain ⟨cur', h3, h4, h5⟩ := setCells_row r (o + 1) (w.setCell ⟨g, o, none⟩ v) _ h2 (by simp; omega)
    refine ⟨cur', h3, by rw [h4]; simp, ?_⟩
    rw [h5, Array.toList_setIfInBounds]
    have ho : o < cur.toList.length := by rw [Array.length_toList]; omega
    rw [List.take_set, List.drop_set_of_lt (by omega)]
    simp only [List.length_cons]
    rw [show o + 1 + r.length = o + (r.length + 1) by omega]
    congr 1
    rw [List.take_succ_eq_append_getElem ho, List.set_append_right _ _ (by rw [List.length_take]; omega)]
    have ho' : o < cur.size := by omega
    simp [Nat.min_eq_left (Nat.le_of_lt ho')]
/-- Cells of one's own written over, from element k on. -/
theorem Raw.set {A : Option Addr} {c : Nat} (h : Raw e sz B w (.slice A n c) n cs) (k : Nat) (vs : List Value) (hk : k + vs.length ≤ cs.length) (hv : 0 < vs.length) :
    ∃ g o, A = some ⟨g, o, none⟩ ∧ Proofs.YtcchjdmioeocdaaDoor.foot (.slice A n c) = some g ∧ Raw e sz B (w.setCells g (o + k) vs) (.slice A n c) n (cs.take k ++ vs ++ cs.drop (k + vs.length)) := by
  have hlen := h.len
  rcases h.out with ⟨h0, A', _⟩ | ⟨g, o, cap, cur, he, hc0, hb, hh, hnc, hcm, hcs, ht⟩
  · rw [h0, Nat.zero_mul] at hlen
    omega
  · injection he with ha _ hc
    subst hc
    have hn : n * sz ≤ c * sz := Nat.mul_le_mul_right _ hnc
    have hfit : o * sz + k + vs.length ≤ cur.size := by rw [hcs, Nat.add_mul]; omega
    obtain ⟨cur', h3, h4, h5⟩ := setCells_row vs (o * sz + k) w cur hh hfit
    refine ⟨g, o * sz, ha, ?_, ?_, .inr ⟨g, o, c, cur', by rw [ha], hc0, hb, h3, hnc, hcm, by rw [h4, hcs], ?_⟩⟩
    · subst ha
      cases c with
      | zero => omega
      | succ c => rfl
    · simp only [List.length_append, List.length_take, List.length_drop]
      omega
    · have hsz : cur.toList.length = o * sz + c * sz := by rw [Array.length_toList, hcs, Nat.add_mul]
      apply List.ext_getElem?
      intro i
      subst ht
      rw [h5]
      simp only [List.getElem?_take, List.getElem?_drop, List.getElem?_append, List.length_append, List.length_take, List.length_drop]
      rw [List.length_take, List.length_drop] at hk
      by_cases h1 : i < n * sz
      · rw [if_pos h1]
        by_cases h2 : i < k
        · rw [if_pos (by omega), if_pos (by omega), if_pos (by omega), if_pos (by omega), if_pos (by omega)]
          simp [h1, h2]
        · by_cases h3 : i < k + vs.length
          · rw [if_pos (by omega), if_neg (by omega), if_pos (by omega), if_neg (by omega)]
            congr 1
            omega
          · rw [if_neg (by omega), if_neg (by omega), if_pos (by omega)]
            congr 1
            omega
      · rw [if_neg h1]
        rw [if_neg (by omega), if_neg (by omega)]
theorem Raw.take {A : Option Addr} {c m k : Nat} (h : Raw e sz B w (.slice A m c) n cs) (hk : k ≤ n) : Raw e sz B w (.slice A k c) k (cs.take (k * sz)) := by
  refine ⟨by rw [List.length_take, h.len]; exact Nat.min_eq_left (Nat.mul_le_mul_right _ hk), ?_⟩
  rcases h.out with ⟨h0, A', he⟩ | ⟨g, o, cap, cur, he, hc0, hb, hh, hnc, hcm, hcs, ht⟩
  · injection he with ha hb hc
    subst hc
    exact .inl ⟨by omega, A, by rw [show k = 0 by omega]⟩
  · injection he with ha _ hc
    subst ha; subst hc
    refine .inr ⟨g, o, c, cur, rfl, hc0, hb, hh, by omega, hcm, hcs, ?_⟩
    rw [← ht, List.take_take, Nat.min_eq_left (Nat.mul_le_mul_right _ hk)]
theorem Raw.drop {A : Option Addr} {c m k : Nat} (h : Raw e sz B w (.slice A m c) n cs) (hk : k ≤ n) : Raw e sz B w (.slice (if c = k then A else A.map (·.add (k * sz))) (n - k) (c - k)) (n - k) (cs.drop (k * sz)) := by
  refine ⟨by rw [List.length_drop, h.len, Nat.sub_mul], ?_⟩
  rcases h.out with ⟨h0, A', he⟩ | ⟨g, o, cap, cur, he, hc0, hb, hh, hnc, hcm, hcs, ht⟩
  · injection he with ha hb hc
    subst hc
    exact .inl ⟨by omega, _, by rw [show n - k = 0 by omega, show 0 - k = 0 by omega]⟩
  · injection he with ha _ hc
    subst ha; subst hc
    by_cases hck : c = k
    · exact .inl ⟨by omega, _, by rw [show n - k = 0 by omega, show c - k = 0 by omega]⟩
    · rw [if_neg hck]
      refine .inr ⟨g, o + k, c - k, cur, ?_, by omega, hb, hh, by omega, by omega, by rw [hcs]; congr 1; omega, ?_⟩
      · rw [Option.map_some, add_at, Nat.add_mul]
      · rw [← ht, List.drop_take, List.drop_drop, Nat.add_mul, Nat.sub_mul]
end
/-- Behind an append: what has not turned. -/
structure Grew (w w' : World) (v v' : Value) : Prop where
  os : w'.os = w.os
  tape : w'.tape = w.tape
  output : w'.output = w.output
  size : w.heap.size ≤ w'.heap.size
  block : ∀ k, k < w.heap.size → foot v ≠ some k → w'.heap[k]? = w.heap[k]?
  at_ : foot v' = foot v ∨ ∃ b, foot v' = some b ∧ w.heap.size ≤ b
theorem Grew.below {B : Nat} {w0 w w' : World} {v v' : Value} (h : Grew w w' v v') (hb : Below B w0 w) (hB : B ≤ w.heap.size) (hf : ∀ g, foot v = some g → B ≤ g) : Below B w0 w' :=
  hb.trans ⟨h.os, h.tape, h.output, h.size, fun k hk => h.block k (by omega) (fun e => by have := hf k e; omega)⟩
section
variable {P : Program}
theorem raw_append (w : World) (B : Nat) (t ty e : TypeId) (z : Value) (sz bytes : Nat) (ht : P.underlying t = some (.slice e)) (hinfo : (P.info? e).map (fun i => (i.zero, i.size, i.bytes)) = some (some z, sz, bytes)) (hzs : z.cells.size = sz) (hsz : 0 < sz)
    (v : Value) (n : Nat) (xs : List Value) (hown : Raw e sz B w v n xs)
    (a : Addr) (m c : Nat) (news : List Value) (hl : news.length = m * sz) (hnews : ∀ j u, news[j]? = some u → w.cell? (a.add j) = some u) (h1 : ∀ u ∈ news, u.oneCell' = true) (hm : 0 < m)
    (h63 : n + m ≤ maxLen) (hbytes : (n + m) * bytes ≤ 140737488355328) (hbase : B ≤ w.heap.size) :
    ∃ v' w', (Builtin.append_ #[t, t] ty #[v, .slice (some a) m c]).run P w = .ok v' w' ∧ Raw e sz B w' v' (n + m) (xs ++ news) ∧ Grew w w' v v' := by
  obtain ⟨i, hi, hzz⟩ := Option.map_eq_some_iff.1 hinfo
  simp only [Prod.mk.injEq] at hzz
  obtain ⟨hz, hsize, hby⟩ := hzz
  have grows : ∀ (b : Addr) (cap : Nat), cap < n + m → (∀ j u, xs[j]? = some u → w.cell? (b.add j) = some u) → v = .slice (some b) n cap →
      ∃ v' w', (Builtin.append_ #[t, t] ty #[v, .slice (some a) m c]).run P w = .ok v' w' ∧ Raw e sz B w' v' (n + m) (xs ++ news) ∧ Grew w w' v v' := by
    intro b cap hcap hcells hv
    obtain ⟨v', w', hr, ho, hg⟩ := run_append_arg_grows (P := P) (w := w) t ty e i z sz bytes ht hi hz hsize hby hzs hsz b n cap xs hown.len hcells a m c news hl hnews hcap h63 hbytes
    refine ⟨v', w', by rw [hv]; exact hr, (raw_own ho).mono hbase, ⟨hg.os, hg.tape, hg.output, hg.size, fun k hk _ => hg.block k hk (by simp), ?_⟩⟩
    rcases (raw_own ho).out with ⟨h0, _⟩ | ⟨g', o, cap', _, he, hc', hb, _⟩
    · omega
    · cases cap' with
      | zero => omega
      | succ c => exact .inr ⟨g', by rw [he]; rfl, hb⟩
  rcases hown.out with ⟨h0, A, hv⟩ | ⟨g, off, cap, cur, hv, hc0, hbg, hg, hnc, hcm, hcs, htake⟩
  · have hx : xs = [] := List.eq_nil_of_length_eq_zero (by rw [hown.len, h0, Nat.zero_mul])
    cases A with
    | none =>
      subst h0
      have ho : w.ownsRow B e sz v 0 xs := ⟨hown.len, .inl ⟨hv, rfl⟩⟩
      obtain ⟨v', w', hr, ho', hg, _, hat⟩ := run_append_own_at (P := P) w B t ty e i z sz bytes ht hi hz hsize hby hzs hsz v 0 xs ho a m c news hl hnews h1 h63 hbytes hbase
      have hv' : v.ownBlock = none := by rw [hv]; rfl
      rw [hv'] at hat
      refine ⟨v', w', hr, raw_own ho', ⟨hg.os, hg.tape, hg.output, hg.size, fun k hk _ => hg.block k hk (by rw [hv']; simp), ?_⟩⟩
      rcases (raw_own ho').out with ⟨h0, _⟩ | ⟨g', o, cap', _, he, hc', hb, _⟩
      · omega
      · cases cap' with
        | zero => omega
        | succ c =>
          rw [he] at hat
          rcases hat with hat | hat
          · cases hat
          · injection hat with hat
            exact .inr ⟨g', by rw [he]; rfl, by simp at hat; omega⟩
    | some b => exact grows b 0 (by omega) (fun j u hu => by rw [hx] at hu; simp at hu) (by rw [hv, h0])
  · by_cases hroom : n + m ≤ cap
    · have hfit : off * sz + n * sz + news.length ≤ cur.size := by
        rw [hl, hcs, ← Nat.add_mul, ← Nat.add_mul]
        exact Nat.mul_le_mul_right _ (by omega)
      subst hsize
      have hr := run_append_room_cells (P := P) (w := w) t ty e i ht hi g (off * i.size) n cap a m c news hl hnews h1 hroom
        (fun j hj => by rw [cell_at hg]; simp; omega) (fun j _ => blk_frozen hg _)
      obtain ⟨cur', h3, h4, h5⟩ := setCells_row news (off * i.size + n * i.size) w cur hg hfit
      obtain ⟨s1, s2, s3, s4⟩ := setCells_same g news (off * i.size + n * i.size) w
      have hfv : foot v = some g := by
        rw [hv]
        cases cap with
        | zero => omega
        | succ c => rfl
      refine ⟨_, _, by rw [hv]; exact hr, ⟨by rw [List.length_append, hown.len, hl, Nat.add_mul], .inr ⟨g, off, cap, cur', rfl, hc0, hbg, h3, hroom, hcm, by rw [h4, hcs], ?_⟩⟩,
        ⟨s1, s2, s3, by rw [s4]; exact Nat.le_refl _, fun k _ hk => setCells_far news _ k (fun he => hk (by rw [he]; exact hfv)), .inl (by
          rw [hfv]
          cases cap with
          | zero => omega
          | succ c => rfl)⟩⟩
      rw [h5, List.append_assoc, List.drop_append_of_le_length (by rw [List.length_take, Array.length_toList]; omega), List.drop_take]
      rw [show off * i.size + n * i.size - off * i.size = n * i.size by omega, htake]
      rw [← List.append_assoc]
      exact List.take_left' (by rw [List.length_append, hown.len, hl, Nat.add_mul])
    · refine grows ⟨g, off * sz, none⟩ cap (by omega) (fun j u hu => ?_) hv
      rw [add_at, cell_at hg]
      rw [← htake, List.getElem?_take] at hu
      split at hu
      · rw [List.getElem?_drop] at hu
        rw [← Array.getElem?_toList]
        exact hu
      · cases hu
end
end Go.Proofs.YtcchjdmioeocdaaDoor
