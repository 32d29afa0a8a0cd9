/-
  No cell of these rows narrows 'for every input' (looked for: loops, veiled, ifaces, maps, wideKeys, modest, calm, conditions, laid).
  DERIVED. THE GIVEN ROWS OF THIS SEAT. 8 by the template 'for every input the law returns true; each argument reads behind the call as it read before'; 0 by the template 'total and deterministic' (their statements: YtnhnckhjcnjacaaTotals.lean).
  GIVEN WITH THE SEED: the statements are not yours to turn. If you find one false, say at which input.
  Laid BY PROGRAM, IN A SANDBOX (cutbox-rows.mjs): the forced cells as the released guide's own fill.sh prints them over the translation be97948f60966e34… (all of the seat's roots in one cut). By AI agents, Wed Nov 11 2026. No macro, syntax, notation, axiom, sorry.
-/
import Derived.Test.YtnhnckhjcnjacaaChecked
import GoSem.Claim
import GoSem.ClaimJoined
import GoSem.ClaimMapViews
import Derived.JoinedTies
import Derived.KernelRfl
namespace Go.Proofs.Ytnhnckhjcnjacaa
/- THE CELL 'sum', in the pinned program and in every row, IS THE sha256 OF THE DUMP (.gsa) THAT YtnhnckhjcnjacaaProg.lean LOADS. Nothing in Lean hashes anything: it is a label: what it is worth is what the hold of that sum in a sandbox is worth. -/
noncomputable def Try.pinned : Pinned := { name := "ytnhnckhjcnjacaa", sum := "be97948f60966e348abd23dd48cb7aa2a8997b0064f5ffaf773e6d2a5a47dda6", checked := Try.checked }
namespace Rows
def none {H : Type} : Left H := { results := [], args := [] }

/-- 'latchkeylaw08.StrataParts': WHATEVER THE INPUT: true; the input reads as it did. -/
def strataPartsSpec : ChangeSpec := { name := "strataParts", fn := fun _ => fun
  | [d1, d2] => { results := [.lit (.bool true)], args := [d1, d2] }
  | _ => none }
def strataPartsRow : OpenClaim := { program := "ytnhnckhjcnjacaa", sum := "be97948f60966e348abd23dd48cb7aa2a8997b0064f5ffaf773e6d2a5a47dda6", func := "latchkey/latchkeylaw08.StrataParts", spec := "strataParts", unfollowed := true, recurses := true, apart := false }
def StrataPartsSaid : Prop := strataPartsRow.holds Try.pinned (OpenSpec.ofChange strataPartsSpec)

/-- ITS FALSE NEIGHBOUR: 'it returns false'. Refute it at one input. -/
def strataPartsWrong : ChangeSpec := { name := "strataParts", fn := fun _ => fun
  | [d1, d2] => { results := [.lit (.bool false)], args := [d1, d2] }
  | _ => none }
def StrataPartsWrongFalsely : Prop := strataPartsRow.holds Try.pinned (OpenSpec.ofChange strataPartsWrong)

/-- 'latchkeylaw08.StrataNumbers': WHATEVER THE INPUT: true; the input reads as it did. -/
def strataNumbersSpec : ChangeSpec := { name := "strataNumbers", fn := fun _ => fun
  | [d1, d2] => { results := [.lit (.bool true)], args := [d1, d2] }
  | _ => none }
def strataNumbersRow : OpenClaim := { program := "ytnhnckhjcnjacaa", sum := "be97948f60966e348abd23dd48cb7aa2a8997b0064f5ffaf773e6d2a5a47dda6", func := "latchkey/latchkeylaw08.StrataNumbers", spec := "strataNumbers", unfollowed := true, recurses := true, apart := false }
def StrataNumbersSaid : Prop := strataNumbersRow.holds Try.pinned (OpenSpec.ofChange strataNumbersSpec)

/-- ITS FALSE NEIGHBOUR: 'it returns false'. Refute it at one input. -/
def strataNumbersWrong : ChangeSpec := { name := "strataNumbers", fn := fun _ => fun
  | [d1, d2] => { results := [.lit (.bool false)], args := [d1, d2] }
  | _ => none }
def StrataNumbersWrongFalsely : Prop := strataNumbersRow.holds Try.pinned (OpenSpec.ofChange strataNumbersWrong)

/-- 'latchkeylaw08.StrataReach': WHATEVER THE INPUT: true; the input reads as it did. -/
def strataReachSpec : ChangeSpec := { name := "strataReach", fn := fun _ => fun
  | [d1, d2, d3] => { results := [.lit (.bool true)], args := [d1, d2, d3] }
  | _ => none }
def strataReachRow : OpenClaim := { program := "ytnhnckhjcnjacaa", sum := "be97948f60966e348abd23dd48cb7aa2a8997b0064f5ffaf773e6d2a5a47dda6", func := "latchkey/latchkeylaw08.StrataReach", spec := "strataReach", unfollowed := true, recurses := true, apart := false }
def StrataReachSaid : Prop := strataReachRow.holds Try.pinned (OpenSpec.ofChange strataReachSpec)

/-- ITS FALSE NEIGHBOUR: 'it returns false'. Refute it at one input. -/
def strataReachWrong : ChangeSpec := { name := "strataReach", fn := fun _ => fun
  | [d1, d2, d3] => { results := [.lit (.bool false)], args := [d1, d2, d3] }
  | _ => none }
def StrataReachWrongFalsely : Prop := strataReachRow.holds Try.pinned (OpenSpec.ofChange strataReachWrong)

/-- 'latchkeylaw08.StrataLimits': WHATEVER THE INPUT: true; the input reads as it did. -/
def strataLimitsSpec : ChangeSpec := { name := "strataLimits", fn := fun _ => fun
  | [] => { results := [.lit (.bool true)], args := [] }
  | _ => none }
def strataLimitsRow : OpenClaim := { program := "ytnhnckhjcnjacaa", sum := "be97948f60966e348abd23dd48cb7aa2a8997b0064f5ffaf773e6d2a5a47dda6", func := "latchkey/latchkeylaw08.StrataLimits", spec := "strataLimits", unfollowed := true, recurses := true, apart := false }
def StrataLimitsSaid : Prop := strataLimitsRow.holds Try.pinned (OpenSpec.ofChange strataLimitsSpec)

/-- ITS FALSE NEIGHBOUR: 'it returns false'. Refute it at one input. -/
def strataLimitsWrong : ChangeSpec := { name := "strataLimits", fn := fun _ => fun
  | [] => { results := [.lit (.bool false)], args := [] }
  | _ => none }
def StrataLimitsWrongFalsely : Prop := strataLimitsRow.holds Try.pinned (OpenSpec.ofChange strataLimitsWrong)

/-- 'latchkeylaw08.StrataOrdered': WHATEVER THE INPUT: true; the input reads as it did. -/
def strataOrderedSpec : ChangeSpec := { name := "strataOrdered", fn := fun _ => fun
  | [d1, d2] => { results := [.lit (.bool true)], args := [d1, d2] }
  | _ => none }
def strataOrderedRow : OpenClaim := { program := "ytnhnckhjcnjacaa", sum := "be97948f60966e348abd23dd48cb7aa2a8997b0064f5ffaf773e6d2a5a47dda6", func := "latchkey/latchkeylaw08.StrataOrdered", spec := "strataOrdered", unfollowed := true, recurses := true, apart := false }
def StrataOrderedSaid : Prop := strataOrderedRow.holds Try.pinned (OpenSpec.ofChange strataOrderedSpec)

/-- ITS FALSE NEIGHBOUR: 'it returns false'. Refute it at one input. -/
def strataOrderedWrong : ChangeSpec := { name := "strataOrdered", fn := fun _ => fun
  | [d1, d2] => { results := [.lit (.bool false)], args := [d1, d2] }
  | _ => none }
def StrataOrderedWrongFalsely : Prop := strataOrderedRow.holds Try.pinned (OpenSpec.ofChange strataOrderedWrong)

/-- 'latchkeylaw08.StrataLeast': WHATEVER THE INPUT: true; the input reads as it did. -/
def strataLeastSpec : ChangeSpec := { name := "strataLeast", fn := fun _ => fun
  | [d1, d2] => { results := [.lit (.bool true)], args := [d1, d2] }
  | _ => none }
def strataLeastRow : OpenClaim := { program := "ytnhnckhjcnjacaa", sum := "be97948f60966e348abd23dd48cb7aa2a8997b0064f5ffaf773e6d2a5a47dda6", func := "latchkey/latchkeylaw08.StrataLeast", spec := "strataLeast", unfollowed := true, recurses := true, apart := false }
def StrataLeastSaid : Prop := strataLeastRow.holds Try.pinned (OpenSpec.ofChange strataLeastSpec)

/-- ITS FALSE NEIGHBOUR: 'it returns false'. Refute it at one input. -/
def strataLeastWrong : ChangeSpec := { name := "strataLeast", fn := fun _ => fun
  | [d1, d2] => { results := [.lit (.bool false)], args := [d1, d2] }
  | _ => none }
def StrataLeastWrongFalsely : Prop := strataLeastRow.holds Try.pinned (OpenSpec.ofChange strataLeastWrong)

/-- 'latchkeylaw08.StrataRenamed': WHATEVER THE INPUT: true; the input reads as it did. -/
def strataRenamedSpec : ChangeSpec := { name := "strataRenamed", fn := fun _ => fun
  | [d1, d2, d3] => { results := [.lit (.bool true)], args := [d1, d2, d3] }
  | _ => none }
def strataRenamedRow : OpenClaim := { program := "ytnhnckhjcnjacaa", sum := "be97948f60966e348abd23dd48cb7aa2a8997b0064f5ffaf773e6d2a5a47dda6", func := "latchkey/latchkeylaw08.StrataRenamed", spec := "strataRenamed", unfollowed := true, recurses := true, apart := false }
def StrataRenamedSaid : Prop := strataRenamedRow.holds Try.pinned (OpenSpec.ofChange strataRenamedSpec)

/-- ITS FALSE NEIGHBOUR: 'it returns false'. Refute it at one input. -/
def strataRenamedWrong : ChangeSpec := { name := "strataRenamed", fn := fun _ => fun
  | [d1, d2, d3] => { results := [.lit (.bool false)], args := [d1, d2, d3] }
  | _ => none }
def StrataRenamedWrongFalsely : Prop := strataRenamedRow.holds Try.pinned (OpenSpec.ofChange strataRenamedWrong)

/-- 'latchkeylaw08.StrataKeeps': WHATEVER THE INPUT: true; the input reads as it did. -/
def strataKeepsSpec : ChangeSpec := { name := "strataKeeps", fn := fun _ => fun
  | [d1, d2, d3] => { results := [.lit (.bool true)], args := [d1, d2, d3] }
  | _ => none }
def strataKeepsRow : OpenClaim := { program := "ytnhnckhjcnjacaa", sum := "be97948f60966e348abd23dd48cb7aa2a8997b0064f5ffaf773e6d2a5a47dda6", func := "latchkey/latchkeylaw08.StrataKeeps", spec := "strataKeeps", unfollowed := true, recurses := true, apart := false }
def StrataKeepsSaid : Prop := strataKeepsRow.holds Try.pinned (OpenSpec.ofChange strataKeepsSpec)

/-- ITS FALSE NEIGHBOUR: 'it returns false'. Refute it at one input. -/
def strataKeepsWrong : ChangeSpec := { name := "strataKeeps", fn := fun _ => fun
  | [d1, d2, d3] => { results := [.lit (.bool false)], args := [d1, d2, d3] }
  | _ => none }
def StrataKeepsWrongFalsely : Prop := strataKeepsRow.holds Try.pinned (OpenSpec.ofChange strataKeepsWrong)

/- THE SECOND FORM. 'bulk': how many values and letters a reading holds, each counted each time it is reached (what is shared counts as often as it is met; a slice's spare places count too). A statement '..UptoSaid' is the law's where the arguments, and the package variables that the reading takes, are together of bulk at most 1048576: NARROWER than '..Said'. Prove '..Said' where nothing that the law and all that it calls make is longer than what came in: it says more and counts as full. Else prove '..UptoSaid'. A law counts once. -/
mutual
def uptoBulk {H : Type} : DataW H → Nat
  | .lit (.string bytes) => bytes.length + 1
  | .lit _ => 1
  | .nil => 1
  | .ptr d => uptoBulk d + 1
  | .slice elems spare => uptoBulkAll elems + uptoBulkAll spare + 1
  | .agg parts => uptoBulkAll parts + 1
  | .iface _ d => uptoBulk d + 1
  | .map entries => uptoBulkEntries entries + 1
  | .held _ => 1
def uptoBulkAll {H : Type} : List (DataW H) → Nat
  | [] => 0
  | d :: r => uptoBulk d + uptoBulkAll r
def uptoBulkEntries {H : Type} : List (Lit × DataW H) → Nat
  | [] => 0
  | x :: r => uptoBulkEntry x + uptoBulkEntries r
def uptoBulkEntry {H : Type} : Lit × DataW H → Nat
  | (.string bytes, d) => bytes.length + uptoBulk d + 1
  | (_, d) => uptoBulk d + 1
 end
def uptoSmall : (H : Type) → List (DataW H) → Bool := fun _ ds => decide (uptoBulkAll ds ≤ 1048576)
def OpenSpec.upto (s : _root_.Go.ChangeSpec) : _root_.Go.OpenSpec := { _root_.Go.OpenSpec.ofChange s with cond := some uptoSmall }

/-- 'latchkeylaw08.StrataParts', WHERE WHAT IT READS IS OF BULK AT MOST 1048576: true; the input reads as it did. -/
def strataPartsUptoRow : OpenClaim := { program := "ytnhnckhjcnjacaa", sum := "be97948f60966e348abd23dd48cb7aa2a8997b0064f5ffaf773e6d2a5a47dda6", func := "latchkey/latchkeylaw08.StrataParts", spec := "strataParts", unfollowed := true, recurses := true, apart := false, narrowed := true }
def StrataPartsUptoSaid : Prop := strataPartsUptoRow.holds Try.pinned (OpenSpec.upto strataPartsSpec)

/-- 'latchkeylaw08.StrataNumbers', WHERE WHAT IT READS IS OF BULK AT MOST 1048576: true; the input reads as it did. -/
def strataNumbersUptoRow : OpenClaim := { program := "ytnhnckhjcnjacaa", sum := "be97948f60966e348abd23dd48cb7aa2a8997b0064f5ffaf773e6d2a5a47dda6", func := "latchkey/latchkeylaw08.StrataNumbers", spec := "strataNumbers", unfollowed := true, recurses := true, apart := false, narrowed := true }
def StrataNumbersUptoSaid : Prop := strataNumbersUptoRow.holds Try.pinned (OpenSpec.upto strataNumbersSpec)

/-- 'latchkeylaw08.StrataReach', WHERE WHAT IT READS IS OF BULK AT MOST 1048576: true; the input reads as it did. -/
def strataReachUptoRow : OpenClaim := { program := "ytnhnckhjcnjacaa", sum := "be97948f60966e348abd23dd48cb7aa2a8997b0064f5ffaf773e6d2a5a47dda6", func := "latchkey/latchkeylaw08.StrataReach", spec := "strataReach", unfollowed := true, recurses := true, apart := false, narrowed := true }
def StrataReachUptoSaid : Prop := strataReachUptoRow.holds Try.pinned (OpenSpec.upto strataReachSpec)

/-- 'latchkeylaw08.StrataLimits', WHERE WHAT IT READS IS OF BULK AT MOST 1048576: true; the input reads as it did. -/
def strataLimitsUptoRow : OpenClaim := { program := "ytnhnckhjcnjacaa", sum := "be97948f60966e348abd23dd48cb7aa2a8997b0064f5ffaf773e6d2a5a47dda6", func := "latchkey/latchkeylaw08.StrataLimits", spec := "strataLimits", unfollowed := true, recurses := true, apart := false, narrowed := true }
def StrataLimitsUptoSaid : Prop := strataLimitsUptoRow.holds Try.pinned (OpenSpec.upto strataLimitsSpec)

/-- 'latchkeylaw08.StrataOrdered', WHERE WHAT IT READS IS OF BULK AT MOST 1048576: true; the input reads as it did. -/
def strataOrderedUptoRow : OpenClaim := { program := "ytnhnckhjcnjacaa", sum := "be97948f60966e348abd23dd48cb7aa2a8997b0064f5ffaf773e6d2a5a47dda6", func := "latchkey/latchkeylaw08.StrataOrdered", spec := "strataOrdered", unfollowed := true, recurses := true, apart := false, narrowed := true }
def StrataOrderedUptoSaid : Prop := strataOrderedUptoRow.holds Try.pinned (OpenSpec.upto strataOrderedSpec)

/-- 'latchkeylaw08.StrataLeast', WHERE WHAT IT READS IS OF BULK AT MOST 1048576: true; the input reads as it did. -/
def strataLeastUptoRow : OpenClaim := { program := "ytnhnckhjcnjacaa", sum := "be97948f60966e348abd23dd48cb7aa2a8997b0064f5ffaf773e6d2a5a47dda6", func := "latchkey/latchkeylaw08.StrataLeast", spec := "strataLeast", unfollowed := true, recurses := true, apart := false, narrowed := true }
def StrataLeastUptoSaid : Prop := strataLeastUptoRow.holds Try.pinned (OpenSpec.upto strataLeastSpec)

/-- 'latchkeylaw08.StrataRenamed', WHERE WHAT IT READS IS OF BULK AT MOST 1048576: true; the input reads as it did. -/
def strataRenamedUptoRow : OpenClaim := { program := "ytnhnckhjcnjacaa", sum := "be97948f60966e348abd23dd48cb7aa2a8997b0064f5ffaf773e6d2a5a47dda6", func := "latchkey/latchkeylaw08.StrataRenamed", spec := "strataRenamed", unfollowed := true, recurses := true, apart := false, narrowed := true }
def StrataRenamedUptoSaid : Prop := strataRenamedUptoRow.holds Try.pinned (OpenSpec.upto strataRenamedSpec)

/-- 'latchkeylaw08.StrataKeeps', WHERE WHAT IT READS IS OF BULK AT MOST 1048576: true; the input reads as it did. -/
def strataKeepsUptoRow : OpenClaim := { program := "ytnhnckhjcnjacaa", sum := "be97948f60966e348abd23dd48cb7aa2a8997b0064f5ffaf773e6d2a5a47dda6", func := "latchkey/latchkeylaw08.StrataKeeps", spec := "strataKeeps", unfollowed := true, recurses := true, apart := false, narrowed := true }
def StrataKeepsUptoSaid : Prop := strataKeepsUptoRow.holds Try.pinned (OpenSpec.upto strataKeepsSpec)

end Rows
end Go.Proofs.Ytnhnckhjcnjacaa
