/-
  No cell of these rows narrows 'for every input' (looked for: loops, veiled, ifaces, maps, wideKeys, modest, calm, conditions, laid).
  DERIVED. THE GIVEN ROWS OF THIS SEAT. 6 by the template 'for every input the law returns true; each argument reads behind the call as it read before'; 0 by the template 'total and deterministic' (their statements: YtjndadjhhknggaaTotals.lean).
  GIVEN WITH THE SEED: the statements are not yours to turn. If you find one false, say at which input.
  Laid BY PROGRAM, IN A SANDBOX (cutbox-rows.mjs): the forced cells as the released guide's own fill.sh prints them over the translation f7945a3251deaa02… (all of the seat's roots in one cut). By AI agents, Wed Nov 11 2026. No macro, syntax, notation, axiom, sorry.
-/
import Derived.Test.YtjndadjhhknggaaChecked
import GoSem.Claim
import GoSem.ClaimJoined
import GoSem.ClaimMapViews
import Derived.JoinedTies
import Derived.KernelRfl
namespace Go.Proofs.Ytjndadjhhknggaa
/- THE CELL 'sum', in the pinned program and in every row, IS THE sha256 OF THE DUMP (.gsa) THAT YtjndadjhhknggaaProg.lean LOADS. Nothing in Lean hashes anything: it is a label: what it is worth is what the hold of that sum in a sandbox is worth. -/
noncomputable def Try.pinned : Pinned := { name := "ytjndadjhhknggaa", sum := "f7945a3251deaa0280a5399334ae1aab572e7e5aa28982f1b1ab65cdf2dd50f0", checked := Try.checked }
namespace Rows
def none {H : Type} : Left H := { results := [], args := [] }

/-- 'laws.FnGivenOnce': WHATEVER THE INPUT: true; the input reads as it did. -/
def fnGivenOnceSpec : ChangeSpec := { name := "fnGivenOnce", fn := fun _ => fun
  | [d] => { results := [.lit (.bool true)], args := [d] }
  | _ => none }
def fnGivenOnceRow : OpenClaim := { program := "ytjndadjhhknggaa", sum := "f7945a3251deaa0280a5399334ae1aab572e7e5aa28982f1b1ab65cdf2dd50f0", func := "loop.example/g00305/laws.FnGivenOnce", spec := "fnGivenOnce", apart := false }
def FnGivenOnceSaid : Prop := fnGivenOnceRow.holds Try.pinned (OpenSpec.ofChange fnGivenOnceSpec)

/-- ITS FALSE NEIGHBOUR: 'it returns false'. Refute it at one input. -/
def fnGivenOnceWrong : ChangeSpec := { name := "fnGivenOnce", fn := fun _ => fun
  | [d] => { results := [.lit (.bool false)], args := [d] }
  | _ => none }
def FnGivenOnceWrongFalsely : Prop := fnGivenOnceRow.holds Try.pinned (OpenSpec.ofChange fnGivenOnceWrong)

/-- 'laws.FnExactPlaySink': WHATEVER THE INPUT: true; the input reads as it did. -/
def fnExactPlaySinkSpec : ChangeSpec := { name := "fnExactPlaySink", fn := fun _ => fun
  | [d1, d2] => { results := [.lit (.bool true)], args := [d1, d2] }
  | _ => none }
def fnExactPlaySinkRow : OpenClaim := { program := "ytjndadjhhknggaa", sum := "f7945a3251deaa0280a5399334ae1aab572e7e5aa28982f1b1ab65cdf2dd50f0", func := "loop.example/g00305/laws.FnExactPlaySink", spec := "fnExactPlaySink", apart := false }
def FnExactPlaySinkSaid : Prop := fnExactPlaySinkRow.holds Try.pinned (OpenSpec.ofChange fnExactPlaySinkSpec)

/-- ITS FALSE NEIGHBOUR: 'it returns false'. Refute it at one input. -/
def fnExactPlaySinkWrong : ChangeSpec := { name := "fnExactPlaySink", fn := fun _ => fun
  | [d1, d2] => { results := [.lit (.bool false)], args := [d1, d2] }
  | _ => none }
def FnExactPlaySinkWrongFalsely : Prop := fnExactPlaySinkRow.holds Try.pinned (OpenSpec.ofChange fnExactPlaySinkWrong)

/-- 'laws.FnSinkSteps': WHATEVER THE INPUT: true; the input reads as it did. -/
def fnSinkStepsSpec : ChangeSpec := { name := "fnSinkSteps", fn := fun _ => fun
  | [d1, d2] => { results := [.lit (.bool true)], args := [d1, d2] }
  | _ => none }
def fnSinkStepsRow : OpenClaim := { program := "ytjndadjhhknggaa", sum := "f7945a3251deaa0280a5399334ae1aab572e7e5aa28982f1b1ab65cdf2dd50f0", func := "loop.example/g00305/laws.FnSinkSteps", spec := "fnSinkSteps", apart := false }
def FnSinkStepsSaid : Prop := fnSinkStepsRow.holds Try.pinned (OpenSpec.ofChange fnSinkStepsSpec)

/-- ITS FALSE NEIGHBOUR: 'it returns false'. Refute it at one input. -/
def fnSinkStepsWrong : ChangeSpec := { name := "fnSinkSteps", fn := fun _ => fun
  | [d1, d2] => { results := [.lit (.bool false)], args := [d1, d2] }
  | _ => none }
def FnSinkStepsWrongFalsely : Prop := fnSinkStepsRow.holds Try.pinned (OpenSpec.ofChange fnSinkStepsWrong)

/-- 'laws.FnExactStepSink': WHATEVER THE INPUT: true; the input reads as it did. -/
def fnExactStepSinkSpec : ChangeSpec := { name := "fnExactStepSink", fn := fun _ => fun
  | [d1, d2] => { results := [.lit (.bool true)], args := [d1, d2] }
  | _ => none }
def fnExactStepSinkRow : OpenClaim := { program := "ytjndadjhhknggaa", sum := "f7945a3251deaa0280a5399334ae1aab572e7e5aa28982f1b1ab65cdf2dd50f0", func := "loop.example/g00305/laws.FnExactStepSink", spec := "fnExactStepSink", apart := false }
def FnExactStepSinkSaid : Prop := fnExactStepSinkRow.holds Try.pinned (OpenSpec.ofChange fnExactStepSinkSpec)

/-- ITS FALSE NEIGHBOUR: 'it returns false'. Refute it at one input. -/
def fnExactStepSinkWrong : ChangeSpec := { name := "fnExactStepSink", fn := fun _ => fun
  | [d1, d2] => { results := [.lit (.bool false)], args := [d1, d2] }
  | _ => none }
def FnExactStepSinkWrongFalsely : Prop := fnExactStepSinkRow.holds Try.pinned (OpenSpec.ofChange fnExactStepSinkWrong)

/-- 'laws.FnExactRecoverSink': WHATEVER THE INPUT: true; the input reads as it did. -/
def fnExactRecoverSinkSpec : ChangeSpec := { name := "fnExactRecoverSink", fn := fun _ => fun
  | [d] => { results := [.lit (.bool true)], args := [d] }
  | _ => none }
def fnExactRecoverSinkRow : OpenClaim := { program := "ytjndadjhhknggaa", sum := "f7945a3251deaa0280a5399334ae1aab572e7e5aa28982f1b1ab65cdf2dd50f0", func := "loop.example/g00305/laws.FnExactRecoverSink", spec := "fnExactRecoverSink", apart := false }
def FnExactRecoverSinkSaid : Prop := fnExactRecoverSinkRow.holds Try.pinned (OpenSpec.ofChange fnExactRecoverSinkSpec)

/-- ITS FALSE NEIGHBOUR: 'it returns false'. Refute it at one input. -/
def fnExactRecoverSinkWrong : ChangeSpec := { name := "fnExactRecoverSink", fn := fun _ => fun
  | [d] => { results := [.lit (.bool false)], args := [d] }
  | _ => none }
def FnExactRecoverSinkWrongFalsely : Prop := fnExactRecoverSinkRow.holds Try.pinned (OpenSpec.ofChange fnExactRecoverSinkWrong)

/-- 'laws.FnExactDrainSink': WHATEVER THE INPUT: true; the input reads as it did. -/
def fnExactDrainSinkSpec : ChangeSpec := { name := "fnExactDrainSink", fn := fun _ => fun
  | [d] => { results := [.lit (.bool true)], args := [d] }
  | _ => none }
def fnExactDrainSinkRow : OpenClaim := { program := "ytjndadjhhknggaa", sum := "f7945a3251deaa0280a5399334ae1aab572e7e5aa28982f1b1ab65cdf2dd50f0", func := "loop.example/g00305/laws.FnExactDrainSink", spec := "fnExactDrainSink", apart := false }
def FnExactDrainSinkSaid : Prop := fnExactDrainSinkRow.holds Try.pinned (OpenSpec.ofChange fnExactDrainSinkSpec)

/-- ITS FALSE NEIGHBOUR: 'it returns false'. Refute it at one input. -/
def fnExactDrainSinkWrong : ChangeSpec := { name := "fnExactDrainSink", fn := fun _ => fun
  | [d] => { results := [.lit (.bool false)], args := [d] }
  | _ => none }
def FnExactDrainSinkWrongFalsely : Prop := fnExactDrainSinkRow.holds Try.pinned (OpenSpec.ofChange fnExactDrainSinkWrong)

/- THE SECOND FORM. 'bulk': how many values and letters a reading holds, each counted each time it is reached (what is shared counts as often as it is met; a slice's spare places count too). A statement '..UptoSaid' is the law's where the arguments, and the package variables that the reading takes, are together of bulk at most 1048576: NARROWER than '..Said'. Prove '..Said' where nothing that the law and all that it calls make is longer than what came in: it says more and counts as full. Else prove '..UptoSaid'. A law counts once. -/
mutual
def uptoBulk {H : Type} : DataW H → Nat
  | .lit (.string bytes) => bytes.length + 1
  | .lit _ => 1
  | .nil => 1
  | .ptr d => uptoBulk d + 1
  | .slice elems spare => uptoBulkAll elems + uptoBulkAll spare + 1
  | .agg parts => uptoBulkAll parts + 1
  | .iface _ d => uptoBulk d + 1
  | .map entries => uptoBulkEntries entries + 1
  | .held _ => 1
def uptoBulkAll {H : Type} : List (DataW H) → Nat
  | [] => 0
  | d :: r => uptoBulk d + uptoBulkAll r
def uptoBulkEntries {H : Type} : List (Lit × DataW H) → Nat
  | [] => 0
  | x :: r => uptoBulkEntry x + uptoBulkEntries r
def uptoBulkEntry {H : Type} : Lit × DataW H → Nat
  | (.string bytes, d) => bytes.length + uptoBulk d + 1
  | (_, d) => uptoBulk d + 1
 end
def uptoSmall : (H : Type) → List (DataW H) → Bool := fun _ ds => decide (uptoBulkAll ds ≤ 1048576)
def OpenSpec.upto (s : _root_.Go.ChangeSpec) : _root_.Go.OpenSpec := { _root_.Go.OpenSpec.ofChange s with cond := some uptoSmall }

/-- 'laws.FnGivenOnce', WHERE WHAT IT READS IS OF BULK AT MOST 1048576: true; the input reads as it did. -/
def fnGivenOnceUptoRow : OpenClaim := { program := "ytjndadjhhknggaa", sum := "f7945a3251deaa0280a5399334ae1aab572e7e5aa28982f1b1ab65cdf2dd50f0", func := "loop.example/g00305/laws.FnGivenOnce", spec := "fnGivenOnce", apart := false, narrowed := true }
def FnGivenOnceUptoSaid : Prop := fnGivenOnceUptoRow.holds Try.pinned (OpenSpec.upto fnGivenOnceSpec)

/-- 'laws.FnExactPlaySink', WHERE WHAT IT READS IS OF BULK AT MOST 1048576: true; the input reads as it did. -/
def fnExactPlaySinkUptoRow : OpenClaim := { program := "ytjndadjhhknggaa", sum := "f7945a3251deaa0280a5399334ae1aab572e7e5aa28982f1b1ab65cdf2dd50f0", func := "loop.example/g00305/laws.FnExactPlaySink", spec := "fnExactPlaySink", apart := false, narrowed := true }
def FnExactPlaySinkUptoSaid : Prop := fnExactPlaySinkUptoRow.holds Try.pinned (OpenSpec.upto fnExactPlaySinkSpec)

/-- 'laws.FnSinkSteps', WHERE WHAT IT READS IS OF BULK AT MOST 1048576: true; the input reads as it did. -/
def fnSinkStepsUptoRow : OpenClaim := { program := "ytjndadjhhknggaa", sum := "f7945a3251deaa0280a5399334ae1aab572e7e5aa28982f1b1ab65cdf2dd50f0", func := "loop.example/g00305/laws.FnSinkSteps", spec := "fnSinkSteps", apart := false, narrowed := true }
def FnSinkStepsUptoSaid : Prop := fnSinkStepsUptoRow.holds Try.pinned (OpenSpec.upto fnSinkStepsSpec)

/-- 'laws.FnExactStepSink', WHERE WHAT IT READS IS OF BULK AT MOST 1048576: true; the input reads as it did. -/
def fnExactStepSinkUptoRow : OpenClaim := { program := "ytjndadjhhknggaa", sum := "f7945a3251deaa0280a5399334ae1aab572e7e5aa28982f1b1ab65cdf2dd50f0", func := "loop.example/g00305/laws.FnExactStepSink", spec := "fnExactStepSink", apart := false, narrowed := true }
def FnExactStepSinkUptoSaid : Prop := fnExactStepSinkUptoRow.holds Try.pinned (OpenSpec.upto fnExactStepSinkSpec)

/-- 'laws.FnExactRecoverSink', WHERE WHAT IT READS IS OF BULK AT MOST 1048576: true; the input reads as it did. -/
def fnExactRecoverSinkUptoRow : OpenClaim := { program := "ytjndadjhhknggaa", sum := "f7945a3251deaa0280a5399334ae1aab572e7e5aa28982f1b1ab65cdf2dd50f0", func := "loop.example/g00305/laws.FnExactRecoverSink", spec := "fnExactRecoverSink", apart := false, narrowed := true }
def FnExactRecoverSinkUptoSaid : Prop := fnExactRecoverSinkUptoRow.holds Try.pinned (OpenSpec.upto fnExactRecoverSinkSpec)

/-- 'laws.FnExactDrainSink', WHERE WHAT IT READS IS OF BULK AT MOST 1048576: true; the input reads as it did. -/
def fnExactDrainSinkUptoRow : OpenClaim := { program := "ytjndadjhhknggaa", sum := "f7945a3251deaa0280a5399334ae1aab572e7e5aa28982f1b1ab65cdf2dd50f0", func := "loop.example/g00305/laws.FnExactDrainSink", spec := "fnExactDrainSink", apart := false, narrowed := true }
def FnExactDrainSinkUptoSaid : Prop := fnExactDrainSinkUptoRow.holds Try.pinned (OpenSpec.upto fnExactDrainSinkSpec)

end Rows
end Go.Proofs.Ytjndadjhhknggaa
