/- Beside the laws: what an argument of any readable type reads as (opening), and the row of a law of the template 'true, and the arguments read as they did', from the law's own contract. No condition. -/
import Derived.Test.YtcchjdmioeocdaaDoorRows
import Derived.WalkKit
import Derived.ProofKit
import Derived.OpenShut
import Derived.ShutString
import Derived.ChangeOld
import Derived.Below
import Derived.SizedLaws
import Derived.Carry
import Derived.Deep.Slices
import Derived.Lib.SmallJoins
import Derived.LaidMore
import Derived.LaidLaws
import Derived.Stop.Joined
import Derived.Stop.LaidErr
import Derived.HandedShaped
import Derived.Lib.LaidTab
import Derived.MakeChecks
namespace Go.Proofs.YtcchjdmioeocdaaDoor.Com
open Go.ChangeShapes Go.WideShapes Go.ChangeAt Go.RowKit Go.Deep Go.Joins
set_option linter.unusedVariables false
section
variable {P : Program}
/-- Whatever reads as data of type t has cells of the kind K. -/
def Opens {α : Type} (P : Program) (t : TypeId) (K : World → α → List Value → Prop) : Prop :=
  ∀ (H : Type) (enc : TypeId × Value → H) (w : World) (sp : Nat → Bool) (fuel : Nat) (cs : List Value) (x : DataW H × List MemPlace), DataW.trod enc P w 0 sp true fuel t cs = some x → ∃ a, K w a cs
theorem opens_int {t : TypeId} {k : IntKind} (ht : P.underlying t = some (.int k)) : Opens P t (fun _ (n : Int) cs => cs = [.int k n] ∧ (Lit.int k n).wf = true) := fun H enc w sp fuel cs x h => by
  obtain ⟨n, h1, _, h3⟩ := DataW.trod_int ht h
  exact ⟨n, h1, h3⟩
theorem opens_bool {t : TypeId} (ht : P.underlying t = some .bool) : Opens P t (fun _ (b : Bool) cs => cs = [.bool b]) := fun H enc w sp fuel cs x h => by
  obtain ⟨n, h1, _⟩ := DataW.trod_bool ht h
  exact ⟨n, h1⟩
theorem opens_string {t : TypeId} (ht : P.underlying t = some .string) : Opens P t (fun _ (s : ByteArray) cs => cs = [.string s] ∧ s.size ≤ maxLen) := fun H enc w sp fuel cs x h => by
  obtain ⟨n, h1, _, h3⟩ := DataW.trod_string ht h
  exact ⟨n, h1, h3⟩
theorem Opens.imp {α β : Type} {t : TypeId} {K : World → α → List Value → Prop} {K' : World → β → List Value → Prop} (f : α → β) (h : Opens P t K) (hk : ∀ w a cs, K w a cs → K' w (f a) cs) : Opens P t K' := fun H enc w sp fuel cs x hx => by
  obtain ⟨a, ha⟩ := h H enc w sp fuel cs x hx
  exact ⟨f a, hk _ _ _ ha⟩
/-- A row of elements as it is read: the elements, one behind the other, sz cells each. -/
def RowC {α : Type} (K : World → α → List Value → Prop) (sz : Nat) (w : World) (A : Option Addr) (n : Nat) (xs : List α) : Prop :=
  xs.length = n ∧ n ≤ 9223372036854775807 ∧ (0 < n → ∃ ad, A = some ad ∧ ∀ j p, xs[j]? = some p → ∃ c, c.length = sz ∧ K w p c ∧ ∀ i u, c[i]? = some u → w.cell? (ad.add (j * sz + i)) = some u)
theorem list_of_lt {α : Type} {n : Nat} {p : Nat → α → Prop} (h : ∀ i, i < n → ∃ a, p i a) : ∃ xs : List α, xs.length = n ∧ ∀ j a, xs[j]? = some a → p j a := by
  induction n with
  | zero => exact ⟨[], rfl, fun j a h => by simp at h⟩
  | succ n ih =>
    obtain ⟨xs, hl, hx⟩ := ih (fun i hi => h i (by omega))
    obtain ⟨a, ha⟩ := h n (by omega)
    refine ⟨xs ++ [a], by simp [hl], fun j b hj => ?_⟩
    rcases Nat.lt_or_ge j xs.length with hlt | hge
    · rw [List.getElem?_append_left hlt] at hj
      exact hx j b hj
    · have hb := (List.getElem?_eq_some_iff.1 hj).1
      rw [List.length_append, List.length_singleton] at hb
      obtain rfl : j = xs.length := by omega
      have : a = b := by simpa using hj
      subst this
      rw [hl]
      exact ha
theorem opens_slice {α : Type} {t e : TypeId} {K : World → α → List Value → Prop} {sz : Nat} (ht : P.underlying t = some (.slice e)) (hsz : P.cellsOf e = sz) (h : Opens P e K) :
    Opens P t (fun w (xs : List α) cs => ∃ A c, cs = [.slice A xs.length c] ∧ xs.length ≤ c ∧ RowC K sz w A xs.length xs) := fun H enc w sp fuel cs x hx => by
  rcases open_slice ht hx with ⟨rfl, rfl⟩ | ⟨a, len, cap, m, n, D, Pl, rfl, hb, hl, hm, hmm, rfl, hel⟩
  · exact ⟨[], none, 0, rfl, Nat.le_refl _, rfl, by simp, fun h => absurd h (Nat.lt_irrefl 0)⟩
  · have hlm : len ≤ m := by rw [hmm]; split <;> omega
    obtain ⟨xs, hxl, hxs⟩ := list_of_lt (n := len) (p := fun i (p : α) => ∃ c, c.length = sz ∧ K w p c ∧ ∀ j u, c[j]? = some u → w.cell? (a.add (i * sz + j)) = some u) (fun i hi => by
      obtain ⟨cs', h1, h2⟩ := hel i (by omega)
      obtain ⟨p, hp⟩ := h H enc w sp n cs' _ h2
      obtain ⟨_, hlen, hc⟩ := World.cells?_some h1
      refine ⟨p, cs', by rw [hlen, hsz], hp, fun j u hj => ?_⟩
      have hj' := (List.getElem?_eq_some_iff.1 hj).1
      have := hc j (by omega)
      rw [add_add, hsz] at this
      rw [this, hj])
    subst hxl
    exact ⟨xs, some a, cap, rfl, hl, rfl, by unfold maxLen at hm; omega, fun _ => ⟨a, rfl, hxs⟩⟩
/-- The fields from an offset on. -/
def OpensF {α : Type} (P : Program) (fs : List Field) (off sz : Nat) (K : World → α → List Value → Prop) : Prop :=
  ∀ (H : Type) (enc : TypeId × Value → H) (w : World) (sp : Nat → Bool) (n : Nat) (cs : List Value), cs.length = off + sz → (∀ f ∈ fs, ∃ x, DataW.trod enc P w 0 sp true n f.type ((cs.drop f.offset).take (P.cellsOf f.type)) = some x) → ∃ a, K w a (cs.drop off)
theorem opensF_one {α : Type} {f : Field} {off sz : Nat} {K : World → α → List Value → Prop} (ho : f.offset = off) (hs : P.cellsOf f.type = sz) (h : Opens P f.type K) : OpensF P [f] off sz K := fun H enc w sp n cs hl hf => by
  obtain ⟨x, hx⟩ := hf f (by simp)
  rw [ho, hs, List.take_of_length_le (by simp; omega)] at hx
  exact h H enc w sp n _ _ hx
theorem opensF_cons {α β : Type} {f : Field} {fs : List Field} {off off' s1 s2 sz : Nat} {K : World → α → List Value → Prop} {K' : World → β → List Value → Prop} (ho : f.offset = off) (hs : P.cellsOf f.type = s1) (h : Opens P f.type K) (ho' : off' = off + s1) (hsz : sz = s1 + s2) (h' : OpensF P fs off' s2 K') :
    OpensF P (f :: fs) off sz (fun w (x : α × β) cs => ∃ c0 c1, cs = c0 ++ c1 ∧ K w x.1 c0 ∧ K' w x.2 c1) := fun H enc w sp n cs hl hf => by
  obtain ⟨x, hx⟩ := hf f (by simp)
  rw [ho, hs] at hx
  obtain ⟨a, ha⟩ := h H enc w sp n _ _ hx
  obtain ⟨b, hb⟩ := h' H enc w sp n cs (by omega) (fun g hg => hf g (by simp [hg]))
  refine ⟨(a, b), (cs.drop off).take s1, cs.drop off', ?_, ha, hb⟩
  rw [ho', ← List.drop_drop, List.take_append_drop]
theorem opens_struct {α : Type} {t : TypeId} {fs : Array Field} {sz : Nat} {K : World → α → List Value → Prop} (ht : P.underlying t = some (.struct fs)) (hsz : P.cellsOf t = sz) (h : OpensF P fs.toList 0 sz K) : Opens P t K := fun H enc w sp fuel cs x hx => by
  obtain ⟨xs, n, _, rfl, hl, hlen, hf⟩ := DataW.trod_struct ht hx
  have := h H enc w sp n cs (by omega) (fun f hfm => by
    obtain ⟨i, hi, rfl⟩ := List.getElem_of_mem hfm
    have hi' : i < fs.size := by simpa using hi
    have := hf i fs[i] (by simp [hi'])
    rw [List.getElem?_eq_getElem (by omega)] at this
    exact ⟨_, by simpa using this⟩)
  simpa using this
end
/-- An argument, opened. -/
theorem open_arg {α H : Type} {enc : TypeId × Value → H} {P : Program} {w : World} {t : TypeId} {v : Value} {d : DataW H} {ps : List MemPlace} {K : World → α → List Value → Prop} (ho : Opens P t K) (h : DataW.Trod enc P w 0 (fun _ => true) true t v d ps) : ∃ a, K w a v.cells.toList := by
  obtain ⟨fuel, h⟩ := h
  exact ho _ _ _ _ _ _ _ h
theorem slice_of_cells {P : Program} {w : World} {r : Reach} {base : Nat} {t e : TypeId} {v : Value} {A : Option Addr} {n c : Nat} (ht : P.underlying t = some (.slice e)) (ok : Value.okWide P w r base t v) (h : v.cells.toList = [.slice A n c]) : v = .slice A n c := by
  obtain ⟨a', n', c', rfl⟩ := okWide_slice ht ok
  simpa [Value.cells] using h
theorem agg_of_cells {P : Program} {w : World} {r : Reach} {base : Nat} {t : TypeId} {fs : Array Field} {v : Value} {cs : List Value} (ht : P.underlying t = some (.struct fs)) (ok : Value.okWide P w r base t v) (h : v.cells.toList = cs) : v = .agg cs.toArray := by
  obtain ⟨cs', rfl, _⟩ := okWide_struct ht ok
  subst h
  simp [Value.cells]
theorem string_of_cells {P : Program} {w : World} {r : Reach} {base : Nat} {t : TypeId} {v : Value} {s : ByteArray} (ht : P.underlying t = some .string) (ok : Value.okWide P w r base t v) (h : v.cells.toList = [.string s]) : v = .string s := by
  obtain ⟨s', rfl⟩ := okWide_string ht ok
  simpa [Value.cells] using h
theorem int_of_cells {P : Program} {w : World} {r : Reach} {base : Nat} {t : TypeId} {k : IntKind} {v : Value} {n : Int} (ht : P.underlying t = some (.int k)) (ok : Value.okWide P w r base t v) (h : v.cells.toList = [.int k n]) : v = .int k n := by
  obtain ⟨n', rfl⟩ := okWide_int ht ok
  simpa [Value.cells] using h
/-- The arguments read behind the call as they did. -/
theorem trodAll_below {H : Type} {enc : TypeId × Value → H} {P : Program} {W W' : World} (hl : laidOutB P = true) (hb : Below W.heap.size W W') : ∀ {ts : List TypeId} {vs : List Value} {ds : List (DataW H)} {ps : List MemPlace},
    (∀ t ∈ ts, P.readableRec t = true ∧ t < P.types.size) → DataW.TrodAll enc P W 0 (fun _ => true) true ts vs ds ps → (∀ x ∈ ps, x.block < W.heap.size) → DataW.TrodAll enc P W' 0 (fun b => decide (b < W.heap.size)) true ts vs ds ps
  | [], [], [], _, _, h, _ => h
  | t :: ts, v :: vs, d :: ds, _, hr, ⟨p, q, h1, h2, rfl⟩, hlt => ⟨p, q, Below.trod hl (hr t (by simp)).1 (hr t (by simp)).2 h1 hb (fun x hx => hlt x (by simp [hx])), trodAll_below hl hb (fun t' ht' => hr t' (by simp [ht'])) h2 (fun x hx => hlt x (by simp [hx])), rfl⟩
theorem trodAll_len {H : Type} {enc : TypeId × Value → H} {P : Program} {W : World} : ∀ {ts : List TypeId} {vs : List Value} {ds : List (DataW H)} {ps : List MemPlace}, DataW.TrodAll enc P W 0 (fun _ => true) true ts vs ds ps → ds.length = ts.length
  | [], [], [], _, _ => rfl
  | t :: ts, v :: vs, d :: ds, _, ⟨p, q, h1, h2, _⟩ => by simp [trodAll_len h2]
/-- The law's row, lifted, where the row lists variables: from a contract of the law's own. -/
theorem lifted_laid {H : Type} {enc : TypeId × Value → H} {C : Checked} {os : Os} {f : FuncId} {fn : Func} {s : ChangeSpec} {tb : TypeId} {X : World → Array Value → Prop} (hX : ∀ (w w' : World) (args : Array Value), w.heap = w'.heap → X w args → X w' args)
    (own : ownKnob C.prog.godebug = none) (started : os.Started) (noInit : C.prog.inits.idxOf? f = none) (hfn : C.prog.funcs[f]? = some fn)
    (witness : ∃ (w : World) (tape : Tape) (i : Input), w.os = os ∧ (w.forCall tape i).Shaped C.prog ∧ i.vars = [] ∧ Input.okWide C.prog (w.forCall tape i) .any w.heap.size f i ∧
      ((s.pre enc C.prog fn [] false (w.forCall tape i).memory i.args ∧ X (w.forCall tape i).memory i.args) ∧ sizedMet enc C.prog fn (OpenSpec.ofChange s) false (w.forCall tape i).memory i.args) ∧ ({} : Assume).holds C.prog (lone (Frame.enter C.prog f i.args .normal) [] (w.forCall tape i)))
    (hvars : s.vars = []) (hres : fn.resultTypes = #[tb]) (htb : C.prog.underlying tb = some .bool) (hlaid : laidOutB C.prog = true) (hr : ∀ t ∈ fn.params.toList, C.prog.readableRec t = true ∧ t < C.prog.types.size)
    (hspec : ∀ ds : List (DataW H), ds.length = fn.params.size → s.fn H ds = { results := [.lit (.bool true)], args := ds })
    (contract : ∀ (W : World) (args : Array Value) (ds : List (DataW H)) (ps : List MemPlace), (∀ (j : Nat) t v, fn.params[j]? = some t → args[j]? = some v → ∃ base, Value.okWide C.prog W .any base t v) →
      DataW.TrodAll enc C.prog W 0 (fun _ => true) true fn.params.toList args.toList ds ps → X W args → W.ShapedOpen C.prog →
      Calls C.prog f args W fun e W' => e = .returned (.bool true) ∧ Below W.heap.size W W') :
    ReturnsInHanded {} C os f .any (fun w args => (s.pre enc C.prog fn [] false w args ∧ X w args) ∧ sizedMet enc C.prog fn (OpenSpec.ofChange s) false w args) (s.post enc C.prog fn false true false false) := by
  refine returnsInHanded_of_calls own started noInit witness ?_
  intro w tape i _ hsh _ hok hpre hholds
  obtain ⟨_, _, _, fn', hfn', _, _, _, _, hval⟩ := hok
  have e : fn' = fn := Option.some.inj (hfn'.symm.trans hfn)
  subst e
  obtain ⟨⟨⟨ds, gs, before, hw, hc⟩, hx⟩, hz⟩ := hpre
  have hW' := DataW.Whole.of_heap (w' := w.forCall tape i) (by rfl) hw
  have hx' := hX _ (w.forCall tape i) _ (by rfl) hx
  generalize w.forCall tape i = W at *
  have hW := hW'
  obtain ⟨p, q, hA, hV, rfl, hfz, hnd⟩ := hW
  rw [hvars] at hV
  obtain ⟨rfl, rfl⟩ := trodVars_none hV
  have hdl : ds.length = fn'.params.size := by simpa using trodAll_len hA
  refine (contract W i.args ds p (fun j t v h1 h2 => ⟨_, hval j t v h1 h2⟩) hA hx' hsh).mono fun e W' ⟨he, bel⟩ => ?_
  subst he
  refine ChangeSpec.post_blind ?_
  have hsp := hspec ds hdl
  have hsp' : s.fn H (ds ++ []) = { results := [.lit (.bool true)], args := ds } := by rw [List.append_nil]; exact hsp
  refine ⟨ds, [], p ++ [], [], p, [], hW', ?_, ?_, ?_, bel.frame _, fun h => by cases h⟩
  · rw [hsp', hres]; exact trodAll_mk1 (shut_bool htb _)
  · rw [hsp']; exact trodAll_below hlaid bel hr hA (fun x hx => DataW.TrodAll.lt hA x hx)
  · rw [hsp', hvars]; exact rfl
/-- From a row's list to what a table holds, wherever the table stands on it. -/
theorem laidMet_mem {P : Program} {W : World} {n : String} {d : DataW Unit} : ∀ {l : List (String × DataW Unit)}, laidMet P l W → (n, d) ∈ l → ∃ r, laidMet P ((n, d) :: r) W
  | [], _, hm => by cases hm
  | x :: l, h, hm => by
    rcases List.mem_cons.1 hm with rfl | hm
    · exact ⟨l, h⟩
    · exact laidMet_mem h.tail hm
end Go.Proofs.YtcchjdmioeocdaaDoor.Com
