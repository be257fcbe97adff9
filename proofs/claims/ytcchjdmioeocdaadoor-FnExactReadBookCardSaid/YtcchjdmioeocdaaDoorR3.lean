/- A store into a row of one's own, as one step of a walk: the world behind it is a new name. No condition. -/
import Derived.Test.YtcchjdmioeocdaaDoorR1
namespace Go.Proofs.YtcchjdmioeocdaaDoor
open Go.RowKit
section
variable {P : Program} {ops : Array Oper} {rest : List Oper} {o : Oper} {a : Act} {Q : Exit → Act → World → Prop} {K : Act → World → Prop}
theorem store_cells {W : World} {g b : Nat} {e : TypeId} {cur : Array Value} (t : TypeId) (u : Value) (seg : List Value) (hh : W.heap[g]? = some (.cells cur e (0, 0))) (hu : u.cells.toList = seg) (ht : (P.info? t).map (·.size) = some seg.length) (hfit : b + seg.length ≤ cur.size) (h1 : ∀ q ∈ seg, q.oneCell' = true) :
    (Instr.storeAt t (.pointer (some ⟨g, b, none⟩)) u).run P W = .ok () (W.setCells g b seg) := by
  have hst := run_storeCells_cells (P := P) g b seg 0 W (fun j hj => by rw [Nat.add_zero, cell_at hh, Array.getElem?_eq_getElem (by omega)]; rfl) (fun j _ => blk_frozen hh _) h1
  rw [Nat.add_zero] at hst
  obtain ⟨i, hi, hs⟩ := Option.map_eq_some_iff.1 ht
  have hc : u.cells.size = i.size := by rw [hs, ← hu, Array.length_toList]
  simp [Instr.storeAt, Instr.sureAddr, storeVar, sizeOf, typeInfo, hi, hc, hu, hst]
theorem wp_store {W : World} {g b : Nat} {e : TypeId} {cur : Array Value} (hgd : o.guard = none) (hN : o.dst = none) (t : TypeId) (p x : Operand) (ho : o.op = .store t p x) (u : Value) (seg : List Value)
    (hp : a.eval p = .pointer (some ⟨g, b, none⟩)) (hx : a.eval x = u) (hh : W.heap[g]? = some (.cells cur e (0, 0))) (hu : u.cells.toList = seg) (ht : (P.info? t).map (·.size) = some seg.length) (hfit : b + seg.length ≤ cur.size) (h1 : ∀ q ∈ seg, q.oneCell' = true)
    (h : ∀ w', w' = W.setCells g b seg → wpList P ops Q rest a w') : wpList P ops Q (o :: rest) a W := by
  refine wpList_plain hgd fun K hK => ?_
  have hrun := store_cells (P := P) t u seg hh hu ht hfit h1
  unfold Oper.wp execOp
  simp only [ho, hp, hx, Sem.run_bind, Sem.run_pure, Result.andThen_ok, hrun]
  show K (a.put o.dst undef) (W.setCells g b seg)
  rw [hN]
  exact hK _ _ (h _ rfl)
theorem step_store {W : World} {g b : Nat} {e : TypeId} {cur : Array Value} (hw : Region.wanted o (yielded ops a.tmps) = true) (hN : o.dst = none) (t : TypeId) (p x : Operand) (ho : o.op = .store t p x) (u : Value) (seg : List Value)
    (hp : a.eval p = .pointer (some ⟨g, b, none⟩)) (hx : a.eval x = u) (hh : W.heap[g]? = some (.cells cur e (0, 0))) (hu : u.cells.toList = seg) (ht : (P.info? t).map (·.size) = some seg.length) (hfit : b + seg.length ≤ cur.size) (h1 : ∀ q ∈ seg, q.oneCell' = true)
    (h : ∀ w', w' = W.setCells g b seg → K a w') : if Region.wanted o (yielded ops a.tmps) = true then Oper.wp P o a W K Q else K (a.put o.dst undef) W := by
  have hrun := store_cells (P := P) t u seg hh hu ht hfit h1
  rw [if_pos hw]
  unfold Oper.wp execOp
  simp only [ho, hp, hx, Sem.run_bind, Sem.run_pure, Result.andThen_ok, hrun]
  show K (a.put o.dst undef) (W.setCells g b seg)
  rw [hN]
  exact h _ rfl
theorem gate_store {W : World} {t : TypeId} {p v : Operand} (_ho : o.op = .store t p v) (h : wpList P ops Q (o :: rest) a W) : wpList P ops Q (o :: rest) a W := h
end
/-- One cell of element j of one's own row: the block, and what a store there leaves. -/
theorem Own.slot {α : Type} {f : α → List Value} {sz : Nat} {e : TypeId} {B : Nat} {w : World} {g o m c : Nat} {xs : List α} (hf : ∀ x, (f x).length = sz) (h : Own e f sz B w (.slice (some ⟨g, o, none⟩) m c) xs) (j : Nat) (x : α) (hj : xs[j]? = some x) (i : Nat) (hi : i < sz) : ∃ cur : Array Value, w.heap[g]? = some (.cells cur e (0, 0)) ∧ o + j * sz + i + 1 ≤ cur.size ∧ Proofs.YtcchjdmioeocdaaDoor.foot (.slice (some ⟨g, o, none⟩) m c) = some g ∧ B ≤ g ∧
    ∀ (u : Value) (y : α), f y = (f x).set i u → Own e f sz B (w.setCells g (o + j * sz + i) [u]) (.slice (some ⟨g, o, none⟩) m c) (xs.set j y) := by
  have hjl := (List.getElem?_eq_some_iff.1 hj).1
  have hle : j * sz + sz ≤ xs.length * sz := by rw [← Nat.succ_mul]; exact Nat.mul_le_mul_right _ hjl
  rcases h.raw.out with ⟨h0, _⟩ | ⟨g', o', cap, cur, he, hc0, hb, hh, hnc, hcm, hcs, _⟩
  · omega
  · have he' := he
    injection he with ha hm hc
    injection ha with ha
    injection ha with h1 h2
    subst h1
    subst hm
    subst hc
    have hcap : xs.length * sz ≤ c * sz := Nat.mul_le_mul_right _ hnc
    refine ⟨cur, hh, ?_, ?_, hb, fun u y hy => ?_⟩
    · rw [hcs, Nat.add_mul, h2]; omega
    · cases c with
      | zero => omega
      | succ c => rfl
    · obtain ⟨g2, o2, ha2, _, hr⟩ := h.put hf j x y i [u] hj (by simp) (by simp; omega) (by
        rw [hy, List.set_eq_take_append_cons_drop, if_pos (by rw [hf]; exact hi), List.append_assoc]; rfl)
      injection ha2 with ha2
      injection ha2 with h3 h4
      subst h3; subst h4
      exact hr
end Go.Proofs.YtcchjdmioeocdaaDoor
