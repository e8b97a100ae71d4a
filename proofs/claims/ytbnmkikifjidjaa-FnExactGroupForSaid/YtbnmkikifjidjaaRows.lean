/-
  No cell of these rows narrows 'for every input' (looked for: loops, veiled, ifaces, maps, wideKeys, modest, calm, conditions, laid).
  DERIVED. THE GIVEN ROWS OF THIS SEAT. 3 by the template 'for every input the law returns true; each argument reads behind the call as it read before'; 0 by the template 'total and deterministic' (their statements: YtbnmkikifjidjaaTotals.lean).
  GIVEN WITH THE SEED: the statements are not yours to turn. If you find one false, say at which input.
  Laid BY PROGRAM, IN A SANDBOX (cutbox-rows.mjs): the forced cells as the released guide's own fill.sh prints them over the translation d94f55b83be1adbd… (all of the seat's roots in one cut). By AI agents, Wed Nov 11 2026. No macro, syntax, notation, axiom, sorry.
-/
import Derived.Test.YtbnmkikifjidjaaChecked
import GoSem.Claim
import GoSem.ClaimJoined
import GoSem.ClaimMapViews
import Derived.JoinedTies
import Derived.KernelRfl
namespace Go.Proofs.Ytbnmkikifjidjaa
/- THE CELL 'sum', in the pinned program and in every row, IS THE sha256 OF THE DUMP (.gsa) THAT YtbnmkikifjidjaaProg.lean LOADS. Nothing in Lean hashes anything: it is a label: what it is worth is what the hold of that sum in a sandbox is worth. -/
noncomputable def Try.pinned : Pinned := { name := "ytbnmkikifjidjaa", sum := "d94f55b83be1adbdda544506fded54089e3fad52b8f0a14aca8407048bc14a4e", checked := Try.checked }
namespace Rows
def none {H : Type} : Left H := { results := [], args := [] }

/-- 'laws.FnExactGroupFor': WHATEVER THE INPUT: true; the input reads as it did. -/
def fnExactGroupForSpec : ChangeSpec := { name := "fnExactGroupFor", fn := fun _ => fun
  | [d1, d2] => { results := [.lit (.bool true)], args := [d1, d2] }
  | _ => none }
def fnExactGroupForRow : OpenClaim := { program := "ytbnmkikifjidjaa", sum := "d94f55b83be1adbdda544506fded54089e3fad52b8f0a14aca8407048bc14a4e", func := "loop.example/g00305/laws.FnExactGroupFor", spec := "fnExactGroupFor", unfollowed := true, recurses := true, apart := false }
def FnExactGroupForSaid : Prop := fnExactGroupForRow.holds Try.pinned (OpenSpec.ofChange fnExactGroupForSpec)

/-- ITS FALSE NEIGHBOUR: 'it returns false'. Refute it at one input. -/
def fnExactGroupForWrong : ChangeSpec := { name := "fnExactGroupFor", fn := fun _ => fun
  | [d1, d2] => { results := [.lit (.bool false)], args := [d1, d2] }
  | _ => none }
def FnExactGroupForWrongFalsely : Prop := fnExactGroupForRow.holds Try.pinned (OpenSpec.ofChange fnExactGroupForWrong)

/-- 'laws.FnExactSemiJoin': WHATEVER THE INPUT: true; the input reads as it did. -/
def fnExactSemiJoinSpec : ChangeSpec := { name := "fnExactSemiJoin", fn := fun _ => fun
  | [d1, d2, d3] => { results := [.lit (.bool true)], args := [d1, d2, d3] }
  | _ => none }
def fnExactSemiJoinRow : OpenClaim := { program := "ytbnmkikifjidjaa", sum := "d94f55b83be1adbdda544506fded54089e3fad52b8f0a14aca8407048bc14a4e", func := "loop.example/g00305/laws.FnExactSemiJoin", spec := "fnExactSemiJoin", unfollowed := true, recurses := true, apart := false }
def FnExactSemiJoinSaid : Prop := fnExactSemiJoinRow.holds Try.pinned (OpenSpec.ofChange fnExactSemiJoinSpec)

/-- ITS FALSE NEIGHBOUR: 'it returns false'. Refute it at one input. -/
def fnExactSemiJoinWrong : ChangeSpec := { name := "fnExactSemiJoin", fn := fun _ => fun
  | [d1, d2, d3] => { results := [.lit (.bool false)], args := [d1, d2, d3] }
  | _ => none }
def FnExactSemiJoinWrongFalsely : Prop := fnExactSemiJoinRow.holds Try.pinned (OpenSpec.ofChange fnExactSemiJoinWrong)

/-- 'laws.FnExactDelayStream': WHATEVER THE INPUT: true; the input reads as it did. -/
def fnExactDelayStreamSpec : ChangeSpec := { name := "fnExactDelayStream", fn := fun _ => fun
  | [d] => { results := [.lit (.bool true)], args := [d] }
  | _ => none }
def fnExactDelayStreamRow : OpenClaim := { program := "ytbnmkikifjidjaa", sum := "d94f55b83be1adbdda544506fded54089e3fad52b8f0a14aca8407048bc14a4e", func := "loop.example/g00305/laws.FnExactDelayStream", spec := "fnExactDelayStream", unfollowed := true, recurses := true, apart := false }
def FnExactDelayStreamSaid : Prop := fnExactDelayStreamRow.holds Try.pinned (OpenSpec.ofChange fnExactDelayStreamSpec)

/-- ITS FALSE NEIGHBOUR: 'it returns false'. Refute it at one input. -/
def fnExactDelayStreamWrong : ChangeSpec := { name := "fnExactDelayStream", fn := fun _ => fun
  | [d] => { results := [.lit (.bool false)], args := [d] }
  | _ => none }
def FnExactDelayStreamWrongFalsely : Prop := fnExactDelayStreamRow.holds Try.pinned (OpenSpec.ofChange fnExactDelayStreamWrong)

/- THE SECOND FORM. 'bulk': how many values and letters a reading holds, each counted each time it is reached (what is shared counts as often as it is met; a slice's spare places count too). A statement '..UptoSaid' is the law's where the arguments, and the package variables that the reading takes, are together of bulk at most 1048576: NARROWER than '..Said'. Prove '..Said' where nothing that the law and all that it calls make is longer than what came in: it says more and counts as full. Else prove '..UptoSaid'. A law counts once. -/
mutual
def uptoBulk {H : Type} : DataW H → Nat
  | .lit (.string bytes) => bytes.length + 1
  | .lit _ => 1
  | .nil => 1
  | .ptr d => uptoBulk d + 1
  | .slice elems spare => uptoBulkAll elems + uptoBulkAll spare + 1
  | .agg parts => uptoBulkAll parts + 1
  | .iface _ d => uptoBulk d + 1
  | .map entries => uptoBulkEntries entries + 1
  | .held _ => 1
def uptoBulkAll {H : Type} : List (DataW H) → Nat
  | [] => 0
  | d :: r => uptoBulk d + uptoBulkAll r
def uptoBulkEntries {H : Type} : List (Lit × DataW H) → Nat
  | [] => 0
  | x :: r => uptoBulkEntry x + uptoBulkEntries r
def uptoBulkEntry {H : Type} : Lit × DataW H → Nat
  | (.string bytes, d) => bytes.length + uptoBulk d + 1
  | (_, d) => uptoBulk d + 1
 end
def uptoSmall : (H : Type) → List (DataW H) → Bool := fun _ ds => decide (uptoBulkAll ds ≤ 1048576)
def OpenSpec.upto (s : _root_.Go.ChangeSpec) : _root_.Go.OpenSpec := { _root_.Go.OpenSpec.ofChange s with cond := some uptoSmall }

/-- 'laws.FnExactGroupFor', WHERE WHAT IT READS IS OF BULK AT MOST 1048576: true; the input reads as it did. -/
def fnExactGroupForUptoRow : OpenClaim := { program := "ytbnmkikifjidjaa", sum := "d94f55b83be1adbdda544506fded54089e3fad52b8f0a14aca8407048bc14a4e", func := "loop.example/g00305/laws.FnExactGroupFor", spec := "fnExactGroupFor", unfollowed := true, recurses := true, apart := false, narrowed := true }
def FnExactGroupForUptoSaid : Prop := fnExactGroupForUptoRow.holds Try.pinned (OpenSpec.upto fnExactGroupForSpec)

/-- 'laws.FnExactSemiJoin', WHERE WHAT IT READS IS OF BULK AT MOST 1048576: true; the input reads as it did. -/
def fnExactSemiJoinUptoRow : OpenClaim := { program := "ytbnmkikifjidjaa", sum := "d94f55b83be1adbdda544506fded54089e3fad52b8f0a14aca8407048bc14a4e", func := "loop.example/g00305/laws.FnExactSemiJoin", spec := "fnExactSemiJoin", unfollowed := true, recurses := true, apart := false, narrowed := true }
def FnExactSemiJoinUptoSaid : Prop := fnExactSemiJoinUptoRow.holds Try.pinned (OpenSpec.upto fnExactSemiJoinSpec)

/-- 'laws.FnExactDelayStream', WHERE WHAT IT READS IS OF BULK AT MOST 1048576: true; the input reads as it did. -/
def fnExactDelayStreamUptoRow : OpenClaim := { program := "ytbnmkikifjidjaa", sum := "d94f55b83be1adbdda544506fded54089e3fad52b8f0a14aca8407048bc14a4e", func := "loop.example/g00305/laws.FnExactDelayStream", spec := "fnExactDelayStream", unfollowed := true, recurses := true, apart := false, narrowed := true }
def FnExactDelayStreamUptoSaid : Prop := fnExactDelayStreamUptoRow.holds Try.pinned (OpenSpec.upto fnExactDelayStreamSpec)

end Rows
end Go.Proofs.Ytbnmkikifjidjaa
