/-
  No cell of these rows narrows 'for every input' (looked for: loops, veiled, ifaces, maps, wideKeys, modest, calm, conditions, laid).
  DERIVED. THE GIVEN ROWS OF THIS SEAT. 7 by the template 'for every input the law returns true; each argument reads behind the call as it read before'; 0 by the template 'total and deterministic' (their statements: YtdbccemllaehjaaTotals.lean).
  GIVEN WITH THE SEED: the statements are not yours to turn. If you find one false, say at which input.
  Laid BY PROGRAM, IN A SANDBOX (cutbox-rows.mjs): the forced cells as the released guide's own fill.sh prints them over the translation 6a36be19c17d1cf5… (all of the seat's roots in one cut). By AI agents, Wed Nov 11 2026. No macro, syntax, notation, axiom, sorry.
-/
import Derived.Test.YtdbccemllaehjaaChecked
import GoSem.Claim
import GoSem.ClaimJoined
import GoSem.ClaimMapViews
import Derived.JoinedTies
import Derived.KernelRfl
namespace Go.Proofs.Ytdbccemllaehjaa
/- THE CELL 'sum', in the pinned program and in every row, IS THE sha256 OF THE DUMP (.gsa) THAT YtdbccemllaehjaaProg.lean LOADS. Nothing in Lean hashes anything: it is a label: what it is worth is what the hold of that sum in a sandbox is worth. -/
noncomputable def Try.pinned : Pinned := { name := "ytdbccemllaehjaa", sum := "6a36be19c17d1cf5e33c16e2277c9723e829139e555b27c4e12cb5a659819af9", checked := Try.checked }
namespace Rows
def none {H : Type} : Left H := { results := [], args := [] }

/-- 'latchkeylaw25.PagesCuts': WHATEVER THE INPUT: true; the input reads as it did. -/
def pagesCutsSpec : ChangeSpec := { name := "pagesCuts", fn := fun _ => fun
  | [d1, d2, d3] => { results := [.lit (.bool true)], args := [d1, d2, d3] }
  | _ => none }
def pagesCutsRow : OpenClaim := { program := "ytdbccemllaehjaa", sum := "6a36be19c17d1cf5e33c16e2277c9723e829139e555b27c4e12cb5a659819af9", func := "latchkey/latchkeylaw25.PagesCuts", spec := "pagesCuts", plainKeys := false, apart := false }
def PagesCutsSaid : Prop := pagesCutsRow.holds Try.pinned (OpenSpec.ofChange pagesCutsSpec)

/-- ITS FALSE NEIGHBOUR: 'it returns false'. Refute it at one input. -/
def pagesCutsWrong : ChangeSpec := { name := "pagesCuts", fn := fun _ => fun
  | [d1, d2, d3] => { results := [.lit (.bool false)], args := [d1, d2, d3] }
  | _ => none }
def PagesCutsWrongFalsely : Prop := pagesCutsRow.holds Try.pinned (OpenSpec.ofChange pagesCutsWrong)

/-- 'latchkeylaw17.CheckBounds': WHATEVER THE INPUT: true; the input reads as it did. -/
def checkBoundsSpec : ChangeSpec := { name := "checkBounds", fn := fun _ => fun
  | [d1, d2] => { results := [.lit (.bool true)], args := [d1, d2] }
  | _ => none }
def checkBoundsRow : OpenClaim := { program := "ytdbccemllaehjaa", sum := "6a36be19c17d1cf5e33c16e2277c9723e829139e555b27c4e12cb5a659819af9", func := "latchkey/latchkeylaw17.CheckBounds", spec := "checkBounds", plainKeys := false, apart := false }
def CheckBoundsSaid : Prop := checkBoundsRow.holds Try.pinned (OpenSpec.ofChange checkBoundsSpec)

/-- ITS FALSE NEIGHBOUR: 'it returns false'. Refute it at one input. -/
def checkBoundsWrong : ChangeSpec := { name := "checkBounds", fn := fun _ => fun
  | [d1, d2] => { results := [.lit (.bool false)], args := [d1, d2] }
  | _ => none }
def CheckBoundsWrongFalsely : Prop := checkBoundsRow.holds Try.pinned (OpenSpec.ofChange checkBoundsWrong)

/-- 'latchkeylaw23.RecallCaches': WHATEVER THE INPUT: true; the input reads as it did. -/
def recallCachesSpec : ChangeSpec := { name := "recallCaches", fn := fun _ => fun
  | [d1, d2] => { results := [.lit (.bool true)], args := [d1, d2] }
  | _ => none }
def recallCachesRow : OpenClaim := { program := "ytdbccemllaehjaa", sum := "6a36be19c17d1cf5e33c16e2277c9723e829139e555b27c4e12cb5a659819af9", func := "latchkey/latchkeylaw23.RecallCaches", spec := "recallCaches", unfollowed := true, recurses := true, plainKeys := false, apart := false }
def RecallCachesSaid : Prop := recallCachesRow.holds Try.pinned (OpenSpec.ofChange recallCachesSpec)

/-- ITS FALSE NEIGHBOUR: 'it returns false'. Refute it at one input. -/
def recallCachesWrong : ChangeSpec := { name := "recallCaches", fn := fun _ => fun
  | [d1, d2] => { results := [.lit (.bool false)], args := [d1, d2] }
  | _ => none }
def RecallCachesWrongFalsely : Prop := recallCachesRow.holds Try.pinned (OpenSpec.ofChange recallCachesWrong)

/-- 'latchkeylaw23.RecallLately': WHATEVER THE INPUT: true; the input reads as it did. -/
def recallLatelySpec : ChangeSpec := { name := "recallLately", fn := fun _ => fun
  | [d1, d2, d3] => { results := [.lit (.bool true)], args := [d1, d2, d3] }
  | _ => none }
def recallLatelyRow : OpenClaim := { program := "ytdbccemllaehjaa", sum := "6a36be19c17d1cf5e33c16e2277c9723e829139e555b27c4e12cb5a659819af9", func := "latchkey/latchkeylaw23.RecallLately", spec := "recallLately", unfollowed := true, recurses := true, plainKeys := false, apart := false }
def RecallLatelySaid : Prop := recallLatelyRow.holds Try.pinned (OpenSpec.ofChange recallLatelySpec)

/-- ITS FALSE NEIGHBOUR: 'it returns false'. Refute it at one input. -/
def recallLatelyWrong : ChangeSpec := { name := "recallLately", fn := fun _ => fun
  | [d1, d2, d3] => { results := [.lit (.bool false)], args := [d1, d2, d3] }
  | _ => none }
def RecallLatelyWrongFalsely : Prop := recallLatelyRow.holds Try.pinned (OpenSpec.ofChange recallLatelyWrong)

/-- 'latchkeylaw23.RecallKeeps': WHATEVER THE INPUT: true; the input reads as it did. -/
def recallKeepsSpec : ChangeSpec := { name := "recallKeeps", fn := fun _ => fun
  | [d] => { results := [.lit (.bool true)], args := [d] }
  | _ => none }
def recallKeepsRow : OpenClaim := { program := "ytdbccemllaehjaa", sum := "6a36be19c17d1cf5e33c16e2277c9723e829139e555b27c4e12cb5a659819af9", func := "latchkey/latchkeylaw23.RecallKeeps", spec := "recallKeeps", unfollowed := true, recurses := true, plainKeys := false, apart := false }
def RecallKeepsSaid : Prop := recallKeepsRow.holds Try.pinned (OpenSpec.ofChange recallKeepsSpec)

/-- ITS FALSE NEIGHBOUR: 'it returns false'. Refute it at one input. -/
def recallKeepsWrong : ChangeSpec := { name := "recallKeeps", fn := fun _ => fun
  | [d] => { results := [.lit (.bool false)], args := [d] }
  | _ => none }
def RecallKeepsWrongFalsely : Prop := recallKeepsRow.holds Try.pinned (OpenSpec.ofChange recallKeepsWrong)

/-- 'latchkeylaw25.PagesKeys': WHATEVER THE INPUT: true; the input reads as it did. -/
def pagesKeysSpec : ChangeSpec := { name := "pagesKeys", fn := fun _ => fun
  | [d] => { results := [.lit (.bool true)], args := [d] }
  | _ => none }
def pagesKeysRow : OpenClaim := { program := "ytdbccemllaehjaa", sum := "6a36be19c17d1cf5e33c16e2277c9723e829139e555b27c4e12cb5a659819af9", func := "latchkey/latchkeylaw25.PagesKeys", spec := "pagesKeys", inPlace := ["math.Float32bits"], unfollowed := true, recurses := true, plainKeys := false, apart := false }
def PagesKeysSaid : Prop := pagesKeysRow.holds Try.pinned (OpenSpec.ofChange pagesKeysSpec)

/-- ITS FALSE NEIGHBOUR: 'it returns false'. Refute it at one input. -/
def pagesKeysWrong : ChangeSpec := { name := "pagesKeys", fn := fun _ => fun
  | [d] => { results := [.lit (.bool false)], args := [d] }
  | _ => none }
def PagesKeysWrongFalsely : Prop := pagesKeysRow.holds Try.pinned (OpenSpec.ofChange pagesKeysWrong)

/-- 'latchkeylaw25.PagesCodes': WHATEVER THE INPUT: true; the input reads as it did. -/
def pagesCodesSpec : ChangeSpec := { name := "pagesCodes", fn := fun _ => fun
  | [d1, d2] => { results := [.lit (.bool true)], args := [d1, d2] }
  | _ => none }
def pagesCodesRow : OpenClaim := { program := "ytdbccemllaehjaa", sum := "6a36be19c17d1cf5e33c16e2277c9723e829139e555b27c4e12cb5a659819af9", func := "latchkey/latchkeylaw25.PagesCodes", spec := "pagesCodes", plainKeys := false, apart := false }
def PagesCodesSaid : Prop := pagesCodesRow.holds Try.pinned (OpenSpec.ofChange pagesCodesSpec)

/-- ITS FALSE NEIGHBOUR: 'it returns false'. Refute it at one input. -/
def pagesCodesWrong : ChangeSpec := { name := "pagesCodes", fn := fun _ => fun
  | [d1, d2] => { results := [.lit (.bool false)], args := [d1, d2] }
  | _ => none }
def PagesCodesWrongFalsely : Prop := pagesCodesRow.holds Try.pinned (OpenSpec.ofChange pagesCodesWrong)

/- THE SECOND FORM. 'bulk': how many values and letters a reading holds, each counted each time it is reached (what is shared counts as often as it is met; a slice's spare places count too). A statement '..UptoSaid' is the law's where the arguments, and the package variables that the reading takes, are together of bulk at most 1048576: NARROWER than '..Said'. Prove '..Said' where nothing that the law and all that it calls make is longer than what came in: it says more and counts as full. Else prove '..UptoSaid'. A law counts once. -/
mutual
def uptoBulk {H : Type} : DataW H → Nat
  | .lit (.string bytes) => bytes.length + 1
  | .lit _ => 1
  | .nil => 1
  | .ptr d => uptoBulk d + 1
  | .slice elems spare => uptoBulkAll elems + uptoBulkAll spare + 1
  | .agg parts => uptoBulkAll parts + 1
  | .iface _ d => uptoBulk d + 1
  | .map entries => uptoBulkEntries entries + 1
  | .held _ => 1
def uptoBulkAll {H : Type} : List (DataW H) → Nat
  | [] => 0
  | d :: r => uptoBulk d + uptoBulkAll r
def uptoBulkEntries {H : Type} : List (Lit × DataW H) → Nat
  | [] => 0
  | x :: r => uptoBulkEntry x + uptoBulkEntries r
def uptoBulkEntry {H : Type} : Lit × DataW H → Nat
  | (.string bytes, d) => bytes.length + uptoBulk d + 1
  | (_, d) => uptoBulk d + 1
 end
def uptoSmall : (H : Type) → List (DataW H) → Bool := fun _ ds => decide (uptoBulkAll ds ≤ 1048576)
def OpenSpec.upto (s : _root_.Go.ChangeSpec) : _root_.Go.OpenSpec := { _root_.Go.OpenSpec.ofChange s with cond := some uptoSmall }

/-- 'latchkeylaw25.PagesCuts', WHERE WHAT IT READS IS OF BULK AT MOST 1048576: true; the input reads as it did. -/
def pagesCutsUptoRow : OpenClaim := { program := "ytdbccemllaehjaa", sum := "6a36be19c17d1cf5e33c16e2277c9723e829139e555b27c4e12cb5a659819af9", func := "latchkey/latchkeylaw25.PagesCuts", spec := "pagesCuts", plainKeys := false, apart := false, narrowed := true }
def PagesCutsUptoSaid : Prop := pagesCutsUptoRow.holds Try.pinned (OpenSpec.upto pagesCutsSpec)

/-- 'latchkeylaw17.CheckBounds', WHERE WHAT IT READS IS OF BULK AT MOST 1048576: true; the input reads as it did. -/
def checkBoundsUptoRow : OpenClaim := { program := "ytdbccemllaehjaa", sum := "6a36be19c17d1cf5e33c16e2277c9723e829139e555b27c4e12cb5a659819af9", func := "latchkey/latchkeylaw17.CheckBounds", spec := "checkBounds", plainKeys := false, apart := false, narrowed := true }
def CheckBoundsUptoSaid : Prop := checkBoundsUptoRow.holds Try.pinned (OpenSpec.upto checkBoundsSpec)

/-- 'latchkeylaw23.RecallCaches', WHERE WHAT IT READS IS OF BULK AT MOST 1048576: true; the input reads as it did. -/
def recallCachesUptoRow : OpenClaim := { program := "ytdbccemllaehjaa", sum := "6a36be19c17d1cf5e33c16e2277c9723e829139e555b27c4e12cb5a659819af9", func := "latchkey/latchkeylaw23.RecallCaches", spec := "recallCaches", unfollowed := true, recurses := true, plainKeys := false, apart := false, narrowed := true }
def RecallCachesUptoSaid : Prop := recallCachesUptoRow.holds Try.pinned (OpenSpec.upto recallCachesSpec)

/-- 'latchkeylaw23.RecallLately', WHERE WHAT IT READS IS OF BULK AT MOST 1048576: true; the input reads as it did. -/
def recallLatelyUptoRow : OpenClaim := { program := "ytdbccemllaehjaa", sum := "6a36be19c17d1cf5e33c16e2277c9723e829139e555b27c4e12cb5a659819af9", func := "latchkey/latchkeylaw23.RecallLately", spec := "recallLately", unfollowed := true, recurses := true, plainKeys := false, apart := false, narrowed := true }
def RecallLatelyUptoSaid : Prop := recallLatelyUptoRow.holds Try.pinned (OpenSpec.upto recallLatelySpec)

/-- 'latchkeylaw23.RecallKeeps', WHERE WHAT IT READS IS OF BULK AT MOST 1048576: true; the input reads as it did. -/
def recallKeepsUptoRow : OpenClaim := { program := "ytdbccemllaehjaa", sum := "6a36be19c17d1cf5e33c16e2277c9723e829139e555b27c4e12cb5a659819af9", func := "latchkey/latchkeylaw23.RecallKeeps", spec := "recallKeeps", unfollowed := true, recurses := true, plainKeys := false, apart := false, narrowed := true }
def RecallKeepsUptoSaid : Prop := recallKeepsUptoRow.holds Try.pinned (OpenSpec.upto recallKeepsSpec)

/-- 'latchkeylaw25.PagesKeys', WHERE WHAT IT READS IS OF BULK AT MOST 1048576: true; the input reads as it did. -/
def pagesKeysUptoRow : OpenClaim := { program := "ytdbccemllaehjaa", sum := "6a36be19c17d1cf5e33c16e2277c9723e829139e555b27c4e12cb5a659819af9", func := "latchkey/latchkeylaw25.PagesKeys", spec := "pagesKeys", inPlace := ["math.Float32bits"], unfollowed := true, recurses := true, plainKeys := false, apart := false, narrowed := true }
def PagesKeysUptoSaid : Prop := pagesKeysUptoRow.holds Try.pinned (OpenSpec.upto pagesKeysSpec)

/-- 'latchkeylaw25.PagesCodes', WHERE WHAT IT READS IS OF BULK AT MOST 1048576: true; the input reads as it did. -/
def pagesCodesUptoRow : OpenClaim := { program := "ytdbccemllaehjaa", sum := "6a36be19c17d1cf5e33c16e2277c9723e829139e555b27c4e12cb5a659819af9", func := "latchkey/latchkeylaw25.PagesCodes", spec := "pagesCodes", plainKeys := false, apart := false, narrowed := true }
def PagesCodesUptoSaid : Prop := pagesCodesUptoRow.holds Try.pinned (OpenSpec.upto pagesCodesSpec)

end Rows
end Go.Proofs.Ytdbccemllaehjaa
