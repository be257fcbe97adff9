/-
  No cell of these rows narrows 'for every input' (looked for: loops, veiled, ifaces, maps, wideKeys, modest, calm, conditions, laid).
  DERIVED. THE GIVEN ROWS OF THIS SEAT. 6 by the template 'for every input the law returns true; each argument reads behind the call as it read before'; 0 by the template 'total and deterministic' (their statements: YtcchjdmioeocdaaTotals.lean).
  GIVEN WITH THE SEED: the statements are not yours to turn. If you find one false, say at which input.
  Laid BY PROGRAM, IN A SANDBOX (cutbox-rows.mjs): the forced cells as the released guide's own fill.sh prints them over the translation 210201ec22bd5aa4… (all of the seat's roots in one cut). By AI agents, Wed Nov 11 2026. No macro, syntax, notation, axiom, sorry.
-/
import Derived.Test.YtcchjdmioeocdaaChecked
import GoSem.Claim
import GoSem.ClaimJoined
import GoSem.ClaimMapViews
import Derived.JoinedTies
import Derived.KernelRfl
namespace Go.Proofs.Ytcchjdmioeocdaa
/- THE CELL 'sum', in the pinned program and in every row, IS THE sha256 OF THE DUMP (.gsa) THAT YtcchjdmioeocdaaProg.lean LOADS. Nothing in Lean hashes anything: it is a label: what it is worth is what the hold of that sum in a sandbox is worth. -/
noncomputable def Try.pinned : Pinned := { name := "ytcchjdmioeocdaa", sum := "210201ec22bd5aa43ed737d42ba4e1fc2192fb0caa897776053502fc779093ad", checked := Try.checked }
namespace Rows
def none {H : Type} : Left H := { results := [], args := [] }

/-- 'laws.FnExactSumOf': WHATEVER THE INPUT: true; the input reads as it did. -/
def fnExactSumOfSpec : ChangeSpec := { name := "fnExactSumOf", fn := fun _ => fun
  | [d] => { results := [.lit (.bool true)], args := [d] }
  | _ => none }
def fnExactSumOfRow : OpenClaim := { program := "ytcchjdmioeocdaa", sum := "210201ec22bd5aa43ed737d42ba4e1fc2192fb0caa897776053502fc779093ad", func := "loop.example/g00808/laws.FnExactSumOf", spec := "fnExactSumOf", apart := false }
def FnExactSumOfSaid : Prop := fnExactSumOfRow.holds Try.pinned (OpenSpec.ofChange fnExactSumOfSpec)

/-- ITS FALSE NEIGHBOUR: 'it returns false'. Refute it at one input. -/
def fnExactSumOfWrong : ChangeSpec := { name := "fnExactSumOf", fn := fun _ => fun
  | [d] => { results := [.lit (.bool false)], args := [d] }
  | _ => none }
def FnExactSumOfWrongFalsely : Prop := fnExactSumOfRow.holds Try.pinned (OpenSpec.ofChange fnExactSumOfWrong)

/-- 'laws.FnExactPageOk': WHATEVER THE INPUT: true; the input reads as it did. -/
def fnExactPageOkSpec : ChangeSpec := { name := "fnExactPageOk", fn := fun _ => fun
  | [d] => { results := [.lit (.bool true)], args := [d] }
  | _ => none }
def fnExactPageOkRow : OpenClaim := { program := "ytcchjdmioeocdaa", sum := "210201ec22bd5aa43ed737d42ba4e1fc2192fb0caa897776053502fc779093ad", func := "loop.example/g00808/laws.FnExactPageOk", spec := "fnExactPageOk", apart := false }
def FnExactPageOkSaid : Prop := fnExactPageOkRow.holds Try.pinned (OpenSpec.ofChange fnExactPageOkSpec)

/-- ITS FALSE NEIGHBOUR: 'it returns false'. Refute it at one input. -/
def fnExactPageOkWrong : ChangeSpec := { name := "fnExactPageOk", fn := fun _ => fun
  | [d] => { results := [.lit (.bool false)], args := [d] }
  | _ => none }
def FnExactPageOkWrongFalsely : Prop := fnExactPageOkRow.holds Try.pinned (OpenSpec.ofChange fnExactPageOkWrong)

/-- 'laws.FnExactLastBlind': WHATEVER THE INPUT: true; the input reads as it did. -/
def fnExactLastBlindSpec : ChangeSpec := { name := "fnExactLastBlind", fn := fun _ => fun
  | [d] => { results := [.lit (.bool true)], args := [d] }
  | _ => none }
def fnExactLastBlindRow : OpenClaim := { program := "ytcchjdmioeocdaa", sum := "210201ec22bd5aa43ed737d42ba4e1fc2192fb0caa897776053502fc779093ad", func := "loop.example/g00808/laws.FnExactLastBlind", spec := "fnExactLastBlind", apart := false }
def FnExactLastBlindSaid : Prop := fnExactLastBlindRow.holds Try.pinned (OpenSpec.ofChange fnExactLastBlindSpec)

/-- ITS FALSE NEIGHBOUR: 'it returns false'. Refute it at one input. -/
def fnExactLastBlindWrong : ChangeSpec := { name := "fnExactLastBlind", fn := fun _ => fun
  | [d] => { results := [.lit (.bool false)], args := [d] }
  | _ => none }
def FnExactLastBlindWrongFalsely : Prop := fnExactLastBlindRow.holds Try.pinned (OpenSpec.ofChange fnExactLastBlindWrong)

/-- 'laws.FnExactDriftOf': WHATEVER THE INPUT: true; the input reads as it did. -/
def fnExactDriftOfSpec : ChangeSpec := { name := "fnExactDriftOf", fn := fun _ => fun
  | [d] => { results := [.lit (.bool true)], args := [d] }
  | _ => none }
def fnExactDriftOfRow : OpenClaim := { program := "ytcchjdmioeocdaa", sum := "210201ec22bd5aa43ed737d42ba4e1fc2192fb0caa897776053502fc779093ad", func := "loop.example/g00808/laws.FnExactDriftOf", spec := "fnExactDriftOf", apart := false }
def FnExactDriftOfSaid : Prop := fnExactDriftOfRow.holds Try.pinned (OpenSpec.ofChange fnExactDriftOfSpec)

/-- ITS FALSE NEIGHBOUR: 'it returns false'. Refute it at one input. -/
def fnExactDriftOfWrong : ChangeSpec := { name := "fnExactDriftOf", fn := fun _ => fun
  | [d] => { results := [.lit (.bool false)], args := [d] }
  | _ => none }
def FnExactDriftOfWrongFalsely : Prop := fnExactDriftOfRow.holds Try.pinned (OpenSpec.ofChange fnExactDriftOfWrong)

/-- 'laws.FnExactBookOk': WHATEVER THE INPUT: true; the input reads as it did. -/
def fnExactBookOkSpec : ChangeSpec := { name := "fnExactBookOk", fn := fun _ => fun
  | [d] => { results := [.lit (.bool true)], args := [d] }
  | _ => none }
def fnExactBookOkRow : OpenClaim := { program := "ytcchjdmioeocdaa", sum := "210201ec22bd5aa43ed737d42ba4e1fc2192fb0caa897776053502fc779093ad", func := "loop.example/g00808/laws.FnExactBookOk", spec := "fnExactBookOk", apart := false }
def FnExactBookOkSaid : Prop := fnExactBookOkRow.holds Try.pinned (OpenSpec.ofChange fnExactBookOkSpec)

/-- ITS FALSE NEIGHBOUR: 'it returns false'. Refute it at one input. -/
def fnExactBookOkWrong : ChangeSpec := { name := "fnExactBookOk", fn := fun _ => fun
  | [d] => { results := [.lit (.bool false)], args := [d] }
  | _ => none }
def FnExactBookOkWrongFalsely : Prop := fnExactBookOkRow.holds Try.pinned (OpenSpec.ofChange fnExactBookOkWrong)

/-- 'laws.FnExactCountConds': WHATEVER THE INPUT: true; the input reads as it did. -/
def fnExactCountCondsSpec : ChangeSpec := { name := "fnExactCountConds", fn := fun _ => fun
  | [d] => { results := [.lit (.bool true)], args := [d] }
  | _ => none }
def fnExactCountCondsRow : OpenClaim := { program := "ytcchjdmioeocdaa", sum := "210201ec22bd5aa43ed737d42ba4e1fc2192fb0caa897776053502fc779093ad", func := "loop.example/g00808/laws.FnExactCountConds", spec := "fnExactCountConds", apart := false }
def FnExactCountCondsSaid : Prop := fnExactCountCondsRow.holds Try.pinned (OpenSpec.ofChange fnExactCountCondsSpec)

/-- ITS FALSE NEIGHBOUR: 'it returns false'. Refute it at one input. -/
def fnExactCountCondsWrong : ChangeSpec := { name := "fnExactCountConds", fn := fun _ => fun
  | [d] => { results := [.lit (.bool false)], args := [d] }
  | _ => none }
def FnExactCountCondsWrongFalsely : Prop := fnExactCountCondsRow.holds Try.pinned (OpenSpec.ofChange fnExactCountCondsWrong)

/- THE SECOND FORM. 'bulk': how many values and letters a reading holds, each counted each time it is reached (what is shared counts as often as it is met; a slice's spare places count too). A statement '..UptoSaid' is the law's where the arguments, and the package variables that the reading takes, are together of bulk at most 1048576: NARROWER than '..Said'. Prove '..Said' where nothing that the law and all that it calls make is longer than what came in: it says more and counts as full. Else prove '..UptoSaid'. A law counts once. -/
mutual
def uptoBulk {H : Type} : DataW H → Nat
  | .lit (.string bytes) => bytes.length + 1
  | .lit _ => 1
  | .nil => 1
  | .ptr d => uptoBulk d + 1
  | .slice elems spare => uptoBulkAll elems + uptoBulkAll spare + 1
  | .agg parts => uptoBulkAll parts + 1
  | .iface _ d => uptoBulk d + 1
  | .map entries => uptoBulkEntries entries + 1
  | .held _ => 1
def uptoBulkAll {H : Type} : List (DataW H) → Nat
  | [] => 0
  | d :: r => uptoBulk d + uptoBulkAll r
def uptoBulkEntries {H : Type} : List (Lit × DataW H) → Nat
  | [] => 0
  | x :: r => uptoBulkEntry x + uptoBulkEntries r
def uptoBulkEntry {H : Type} : Lit × DataW H → Nat
  | (.string bytes, d) => bytes.length + uptoBulk d + 1
  | (_, d) => uptoBulk d + 1
 end
def uptoSmall : (H : Type) → List (DataW H) → Bool := fun _ ds => decide (uptoBulkAll ds ≤ 1048576)
def OpenSpec.upto (s : _root_.Go.ChangeSpec) : _root_.Go.OpenSpec := { _root_.Go.OpenSpec.ofChange s with cond := some uptoSmall }

/-- 'laws.FnExactSumOf', WHERE WHAT IT READS IS OF BULK AT MOST 1048576: true; the input reads as it did. -/
def fnExactSumOfUptoRow : OpenClaim := { program := "ytcchjdmioeocdaa", sum := "210201ec22bd5aa43ed737d42ba4e1fc2192fb0caa897776053502fc779093ad", func := "loop.example/g00808/laws.FnExactSumOf", spec := "fnExactSumOf", apart := false, narrowed := true }
def FnExactSumOfUptoSaid : Prop := fnExactSumOfUptoRow.holds Try.pinned (OpenSpec.upto fnExactSumOfSpec)

/-- 'laws.FnExactPageOk', WHERE WHAT IT READS IS OF BULK AT MOST 1048576: true; the input reads as it did. -/
def fnExactPageOkUptoRow : OpenClaim := { program := "ytcchjdmioeocdaa", sum := "210201ec22bd5aa43ed737d42ba4e1fc2192fb0caa897776053502fc779093ad", func := "loop.example/g00808/laws.FnExactPageOk", spec := "fnExactPageOk", apart := false, narrowed := true }
def FnExactPageOkUptoSaid : Prop := fnExactPageOkUptoRow.holds Try.pinned (OpenSpec.upto fnExactPageOkSpec)

/-- 'laws.FnExactLastBlind', WHERE WHAT IT READS IS OF BULK AT MOST 1048576: true; the input reads as it did. -/
def fnExactLastBlindUptoRow : OpenClaim := { program := "ytcchjdmioeocdaa", sum := "210201ec22bd5aa43ed737d42ba4e1fc2192fb0caa897776053502fc779093ad", func := "loop.example/g00808/laws.FnExactLastBlind", spec := "fnExactLastBlind", apart := false, narrowed := true }
def FnExactLastBlindUptoSaid : Prop := fnExactLastBlindUptoRow.holds Try.pinned (OpenSpec.upto fnExactLastBlindSpec)

/-- 'laws.FnExactDriftOf', WHERE WHAT IT READS IS OF BULK AT MOST 1048576: true; the input reads as it did. -/
def fnExactDriftOfUptoRow : OpenClaim := { program := "ytcchjdmioeocdaa", sum := "210201ec22bd5aa43ed737d42ba4e1fc2192fb0caa897776053502fc779093ad", func := "loop.example/g00808/laws.FnExactDriftOf", spec := "fnExactDriftOf", apart := false, narrowed := true }
def FnExactDriftOfUptoSaid : Prop := fnExactDriftOfUptoRow.holds Try.pinned (OpenSpec.upto fnExactDriftOfSpec)

/-- 'laws.FnExactBookOk', WHERE WHAT IT READS IS OF BULK AT MOST 1048576: true; the input reads as it did. -/
def fnExactBookOkUptoRow : OpenClaim := { program := "ytcchjdmioeocdaa", sum := "210201ec22bd5aa43ed737d42ba4e1fc2192fb0caa897776053502fc779093ad", func := "loop.example/g00808/laws.FnExactBookOk", spec := "fnExactBookOk", apart := false, narrowed := true }
def FnExactBookOkUptoSaid : Prop := fnExactBookOkUptoRow.holds Try.pinned (OpenSpec.upto fnExactBookOkSpec)

/-- 'laws.FnExactCountConds', WHERE WHAT IT READS IS OF BULK AT MOST 1048576: true; the input reads as it did. -/
def fnExactCountCondsUptoRow : OpenClaim := { program := "ytcchjdmioeocdaa", sum := "210201ec22bd5aa43ed737d42ba4e1fc2192fb0caa897776053502fc779093ad", func := "loop.example/g00808/laws.FnExactCountConds", spec := "fnExactCountConds", apart := false, narrowed := true }
def FnExactCountCondsUptoSaid : Prop := fnExactCountCondsUptoRow.holds Try.pinned (OpenSpec.upto fnExactCountCondsSpec)

end Rows
end Go.Proofs.Ytcchjdmioeocdaa
