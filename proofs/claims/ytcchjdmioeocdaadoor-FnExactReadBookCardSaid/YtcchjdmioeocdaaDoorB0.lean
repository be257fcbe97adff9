/- The ground of this seat's walks: what of the library's variables a world must hold, numbers as text, how worlds grow. No condition. -/
import Derived.Test.YtcchjdmioeocdaaDoorShelf
import Derived.Test.YtcchjdmioeocdaaDoorProg
import Derived.WalkKit
import Derived.WalkSpells
import Derived.Below
import Derived.KernelRfl
import Derived.Deep.QuietTactic
import Derived.BigQuiet
import Derived.Deep.RegionHeld3
import Derived.Deep.OwnRows
import Derived.Lib.Hide
namespace Go.Proofs.YtcchjdmioeocdaaDoor
open Go.RowKit
theorem ret_bool {a b : Bool} (h : a = b) : Ending.returned (.bool a) = .returned (.bool b) := by rw [h]
theorem ret_int {k : IntKind} {a b : Int} (h : a = b) : Ending.returned (.int k a) = .returned (.int k b) := by rw [h]
theorem ret_str {a b : ByteArray} (h : a = b) : Ending.returned (.string a) = .returned (.string b) := by rw [h]
/-- What the library reads of its own variables. -/
structure Env (w : World) : Prop where
  pow : Lib.TabIs Tryd.prog w "internal/strconv.uint64pow10" .u64 Lib.pow10Tab
  size : 8 ≤ w.heap.size
theorem var_below {B : Nat} {w w' : World} {n : String} {g : Nat} (hg : Tryd.prog.globalNamed n = some g) (hB : g < B) (hb : Below B w w') : w'.var? Tryd.prog n = w.var? Tryd.prog n :=
  World.Since.var (w := w) (B := B) ⟨hb.os, hb.tape, hb.output, hb.size, hb.block⟩ hg hB
theorem Env.below {B : Nat} {w w' : World} (h : Env w) (hb : Below B w w') (hB : 8 ≤ B) : Env w' where
  pow := by
    have := h.pow
    unfold Lib.TabIs at *
    rw [var_below (g := 3) (by kernel_rfl) (by omega) hb]; exact this
  size := Nat.le_trans h.size hb.size
theorem Env.step {w w' : World} (h : Env w) (hb : Below w.heap.size w w') : Env w' := h.below hb h.size
theorem Env.drew {w : World} (h : Env w) : Env w.drew := h.below (Below.refl 8 w).drew (Nat.le_refl _)
theorem Env.drewN {w : World} (h : Env w) (n : Nat) : Env (w.drewN n) := h.below (B := 8) ⟨rfl, rfl, rfl, Nat.le_refl _, fun _ _ => rfl⟩ (Nat.le_refl _)
theorem Env.alloc {w : World} (h : Env w) (o : Obj) : Env (w.alloc o) := h.below ((Below.refl 8 w).alloc h.size o) (Nat.le_refl _)
theorem below_drewN {B : Nat} {w w' : World} (h : Below B w w') (n : Nat) : Below B w (w'.drewN n) := h.trans ⟨rfl, rfl, rfl, Nat.le_refl _, fun _ _ => rfl⟩
theorem below_grow {B : Nat} {w w' : World} (h : Below B w w') (hB : B ≤ w'.heap.size) (os : Array Obj) : Below B w (Sort.grow w' os) :=
  h.trans ⟨rfl, rfl, rfl, by simp [Sort.grow], fun k hk => by simp only [Sort.grow]; rw [Array.getElem?_append_left (by omega)]⟩
theorem below_of_le {w w1 w2 : World} (h : Below w.heap.size w w1) (k : Below w1.heap.size w1 w2) : Below w.heap.size w w2 := h.trans (k.mono h.size)
theorem bcell {W w1 : World} (hb : Below W.heap.size W w1) : (∀ b o, b < W.heap.size → w1.cell? ⟨b, o, none⟩ = W.cell? ⟨b, o, none⟩) ∧ (∀ b o, b < W.heap.size → w1.frozen? ⟨b, o, none⟩ = W.frozen? ⟨b, o, none⟩) :=
  ⟨fun b o h => hb.cell (p := ⟨b, o, none⟩) h, fun b o h => hb.frozen (p := ⟨b, o, none⟩) h⟩
theorem keep_cell {w w' : World} {a : Addr} {v : Value} (hb : Below w.heap.size w w') (h : w.cell? a = some v) : w'.cell? a = some v := (hb.cell (World.block_lt_of_cell? w _ h)).trans h
/-- Block g holds these cells. -/
structure Blk (g : Nat) (cells : Array Value) (t : TypeId) (w : World) : Prop where
  out : w.heap[g]? = some (.cells cells t (0, 0))
theorem Blk.lt {g : Nat} {cells : Array Value} {t : TypeId} {w : World} (h : Blk g cells t w) : g < w.heap.size := (Array.getElem?_eq_some_iff.1 h.out).1
theorem Blk.cell {g : Nat} {cells : Array Value} {t : TypeId} {w : World} (h : Blk g cells t w) (j : Nat) : w.cell? ⟨g, j, none⟩ = cells[j]? := by simp [World.cell?, h.out]
theorem blk_new (w : World) (cells : Array Value) (t : TypeId) : Blk w.heap.size cells t (w.alloc (.cells cells t)) := ⟨by show (w.heap.push _)[w.heap.size]? = _; simp⟩
theorem keep_blk {w w' : World} {g : Nat} {cells : Array Value} {t : TypeId} (hb : Below w.heap.size w w') (h : Blk g cells t w) : Blk g cells t w' := ⟨(hb.block g h.lt).trans h.out⟩
/-- Two texts put together, and how long they are. -/
theorem cat_ {a b : ByteArray} {n m : Nat} (ha : a.size ≤ n) (hb : b.size ≤ m) (h : n + m ≤ 1000000000000) : (∀ w : World, (Op.stringOp .add a b).run Tryd.prog w = .ok (.string (a ++ b)) w) ∧ (a ++ b).size ≤ n + m :=
  ⟨fun w => run_string_add_sum w a b (by omega), by rw [ByteArray.size_append]; omega⟩
/-- A number in decimal. -/
def num (n : Int) : ByteArray := ⟨(Lib.itoa n).toArray⟩
def I64 (n : Int) : Prop := -9223372036854775808 ≤ n ∧ n ≤ 9223372036854775807
end Go.Proofs.YtcchjdmioeocdaaDoor
