/-
  NARROWER THAN 'FOR EVERY INPUT', by the rows' own cells (each row's printed sentence says how): CowPlays: laid · UndoPlays: laid · RollBack: laid · NodesFresh: laid · NodesPlays: laid · ScrubTells: laid · ScrubFinds: laid · ScrubEquals: laid.
  DERIVED. THE GIVEN ROWS OF THIS SEAT. 8 by the template 'for every input the law returns true; each argument reads behind the call as it read before'; 0 by the template 'total and deterministic' (their statements: YtlgopekjjkdkiaaGreatDoorTotals.lean).
  GIVEN WITH THE SEED: the statements are not yours to turn. If you find one false, say at which input.
  Laid BY PROGRAM, IN A SANDBOX (cutbox-rows.mjs): the forced cells as the released guide's own fill.sh prints them over the translation 22766488f2c3000d… (all of the seat's roots in one cut). By AI agents, Wed Nov 11 2026. No macro, syntax, notation, axiom, sorry.
-/
import Derived.Test.YtlgopekjjkdkiaaGreatDoorChecked
import GoSem.PinnedTables
import GoSem.Claim
import GoSem.ClaimJoined
import GoSem.ClaimMapViews
import Derived.JoinedTies
import Derived.KernelRfl
namespace Go.Proofs.YtlgopekjjkdkiaaGreatDoor
/- THE CELL 'sum', in the pinned program and in every row, IS THE sha256 OF THE DUMP (.gsa) THAT YtlgopekjjkdkiaaGreatDoorProg.lean LOADS. Nothing in Lean hashes anything: it is a label: what it is worth is what the hold of that sum in a sandbox is worth. -/
noncomputable def Tryz.pinned : Pinned := { name := "ytlgopekjjkdkiaagreatdoor", sum := "22766488f2c3000da03df6cf3f427e7e5e92565548de12a62084c8f5c2ad0df2", checked := Tryz.checked }
namespace Rows
def none {H : Type} : Left H := { results := [], args := [] }

/- WHAT THE LISTED PACKAGE-LEVEL VARIABLES READ AS WHEN THE CALL BEGINS. Each datum BY PROGRAM (the guide's laid-datum.mjs) off the statement by which the dump's own 'gosem.cut.vars' lays the variable. In a bare row this is a premise. The card (YtlgopekjjkdkiaaGreatDoorCards.lean) ties it to the program's text. -/
def laid_unicode_utf8_acceptRanges {H : Type} : DataW H := .agg [.agg [.lit (.int .u8 128), .lit (.int .u8 191)], .agg [.lit (.int .u8 160), .lit (.int .u8 191)], .agg [.lit (.int .u8 128), .lit (.int .u8 159)], .agg [.lit (.int .u8 144), .lit (.int .u8 191)], .agg [.lit (.int .u8 128), .lit (.int .u8 143)], .agg [.lit (.int .u8 0), .lit (.int .u8 0)], .agg [.lit (.int .u8 0), .lit (.int .u8 0)], .agg [.lit (.int .u8 0), .lit (.int .u8 0)], .agg [.lit (.int .u8 0), .lit (.int .u8 0)], .agg [.lit (.int .u8 0), .lit (.int .u8 0)], .agg [.lit (.int .u8 0), .lit (.int .u8 0)], .agg [.lit (.int .u8 0), .lit (.int .u8 0)], .agg [.lit (.int .u8 0), .lit (.int .u8 0)], .agg [.lit (.int .u8 0), .lit (.int .u8 0)], .agg [.lit (.int .u8 0), .lit (.int .u8 0)], .agg [.lit (.int .u8 0), .lit (.int .u8 0)]]
/-- One of Go's own tables, pinned by name: the form's constant. -/
def laid_unicode_utf8_first : DataW Unit := Go.Pinned.utf8First

/-- 'pentimentolaw17.CowPlays': WHATEVER THE INPUT: true; the input reads as it did. -/
def cowPlaysSpec : ChangeSpec := { name := "cowPlays", fn := fun _ => fun
  | [d1, d2, d3] => { results := [.lit (.bool true)], args := [d1, d2, d3] }
  | _ => none }
def cowPlaysRow : OpenClaim := { program := "ytlgopekjjkdkiaagreatdoor", sum := "22766488f2c3000da03df6cf3f427e7e5e92565548de12a62084c8f5c2ad0df2", func := "pentimento/pentimentolaw17.CowPlays", spec := "cowPlays", inPlace := ["internal/abi.NoEscape", "internal/bytealg.MakeNoZero", "internal/bytealg.IndexByteString", "internal/bytealg.IndexString"], unfollowed := true, recurses := true, named := ["unicode/utf8.first", "unicode/utf8.acceptRanges", "internal/bytealg.MaxLen"], apart := false, laid := [("unicode/utf8.acceptRanges", laid_unicode_utf8_acceptRanges), ("unicode/utf8.first", laid_unicode_utf8_first)] }
def CowPlaysSaid : Prop := cowPlaysRow.holds Tryz.pinned (OpenSpec.ofChange cowPlaysSpec)

/-- ITS FALSE NEIGHBOUR: 'it returns false'. Refute it at one input. -/
def cowPlaysWrong : ChangeSpec := { name := "cowPlays", fn := fun _ => fun
  | [d1, d2, d3] => { results := [.lit (.bool false)], args := [d1, d2, d3] }
  | _ => none }
def CowPlaysWrongFalsely : Prop := cowPlaysRow.holds Tryz.pinned (OpenSpec.ofChange cowPlaysWrong)

/-- 'pentimentolaw15.UndoPlays': WHATEVER THE INPUT: true; the input reads as it did. -/
def undoPlaysSpec : ChangeSpec := { name := "undoPlays", fn := fun _ => fun
  | [d1, d2, d3] => { results := [.lit (.bool true)], args := [d1, d2, d3] }
  | _ => none }
def undoPlaysRow : OpenClaim := { program := "ytlgopekjjkdkiaagreatdoor", sum := "22766488f2c3000da03df6cf3f427e7e5e92565548de12a62084c8f5c2ad0df2", func := "pentimento/pentimentolaw15.UndoPlays", spec := "undoPlays", inPlace := ["internal/abi.NoEscape", "internal/bytealg.MakeNoZero", "internal/bytealg.IndexByteString", "internal/bytealg.IndexString"], unfollowed := true, recurses := true, named := ["unicode/utf8.first", "unicode/utf8.acceptRanges", "internal/bytealg.MaxLen"], apart := false, laid := [("unicode/utf8.acceptRanges", laid_unicode_utf8_acceptRanges), ("unicode/utf8.first", laid_unicode_utf8_first)] }
def UndoPlaysSaid : Prop := undoPlaysRow.holds Tryz.pinned (OpenSpec.ofChange undoPlaysSpec)

/-- ITS FALSE NEIGHBOUR: 'it returns false'. Refute it at one input. -/
def undoPlaysWrong : ChangeSpec := { name := "undoPlays", fn := fun _ => fun
  | [d1, d2, d3] => { results := [.lit (.bool false)], args := [d1, d2, d3] }
  | _ => none }
def UndoPlaysWrongFalsely : Prop := undoPlaysRow.holds Tryz.pinned (OpenSpec.ofChange undoPlaysWrong)

/-- 'pentimentolaw16.RollBack': WHATEVER THE INPUT: true; the input reads as it did. -/
def rollBackSpec : ChangeSpec := { name := "rollBack", fn := fun _ => fun
  | [d1, d2, d3] => { results := [.lit (.bool true)], args := [d1, d2, d3] }
  | _ => none }
def rollBackRow : OpenClaim := { program := "ytlgopekjjkdkiaagreatdoor", sum := "22766488f2c3000da03df6cf3f427e7e5e92565548de12a62084c8f5c2ad0df2", func := "pentimento/pentimentolaw16.RollBack", spec := "rollBack", inPlace := ["internal/abi.NoEscape", "internal/bytealg.MakeNoZero", "internal/bytealg.IndexByteString", "internal/bytealg.IndexString"], unfollowed := true, recurses := true, named := ["unicode/utf8.first", "unicode/utf8.acceptRanges", "internal/bytealg.MaxLen"], apart := false, laid := [("unicode/utf8.acceptRanges", laid_unicode_utf8_acceptRanges), ("unicode/utf8.first", laid_unicode_utf8_first)] }
def RollBackSaid : Prop := rollBackRow.holds Tryz.pinned (OpenSpec.ofChange rollBackSpec)

/-- ITS FALSE NEIGHBOUR: 'it returns false'. Refute it at one input. -/
def rollBackWrong : ChangeSpec := { name := "rollBack", fn := fun _ => fun
  | [d1, d2, d3] => { results := [.lit (.bool false)], args := [d1, d2, d3] }
  | _ => none }
def RollBackWrongFalsely : Prop := rollBackRow.holds Tryz.pinned (OpenSpec.ofChange rollBackWrong)

/-- 'pentimentolaw13.NodesFresh': WHATEVER THE INPUT: true; the input reads as it did. -/
def nodesFreshSpec : ChangeSpec := { name := "nodesFresh", fn := fun _ => fun
  | [d1, d2] => { results := [.lit (.bool true)], args := [d1, d2] }
  | _ => none }
def nodesFreshRow : OpenClaim := { program := "ytlgopekjjkdkiaagreatdoor", sum := "22766488f2c3000da03df6cf3f427e7e5e92565548de12a62084c8f5c2ad0df2", func := "pentimento/pentimentolaw13.NodesFresh", spec := "nodesFresh", inPlace := ["internal/abi.NoEscape", "internal/bytealg.MakeNoZero", "internal/bytealg.IndexByteString", "internal/bytealg.IndexString"], unfollowed := true, recurses := true, named := ["unicode/utf8.first", "unicode/utf8.acceptRanges", "internal/bytealg.MaxLen"], apart := false, laid := [("unicode/utf8.acceptRanges", laid_unicode_utf8_acceptRanges), ("unicode/utf8.first", laid_unicode_utf8_first)] }
def NodesFreshSaid : Prop := nodesFreshRow.holds Tryz.pinned (OpenSpec.ofChange nodesFreshSpec)

/-- ITS FALSE NEIGHBOUR: 'it returns false'. Refute it at one input. -/
def nodesFreshWrong : ChangeSpec := { name := "nodesFresh", fn := fun _ => fun
  | [d1, d2] => { results := [.lit (.bool false)], args := [d1, d2] }
  | _ => none }
def NodesFreshWrongFalsely : Prop := nodesFreshRow.holds Tryz.pinned (OpenSpec.ofChange nodesFreshWrong)

/-- 'pentimentolaw13.NodesPlays': WHATEVER THE INPUT: true; the input reads as it did. -/
def nodesPlaysSpec : ChangeSpec := { name := "nodesPlays", fn := fun _ => fun
  | [d1, d2] => { results := [.lit (.bool true)], args := [d1, d2] }
  | _ => none }
def nodesPlaysRow : OpenClaim := { program := "ytlgopekjjkdkiaagreatdoor", sum := "22766488f2c3000da03df6cf3f427e7e5e92565548de12a62084c8f5c2ad0df2", func := "pentimento/pentimentolaw13.NodesPlays", spec := "nodesPlays", inPlace := ["internal/abi.NoEscape", "internal/bytealg.MakeNoZero", "internal/bytealg.IndexByteString", "internal/bytealg.IndexString"], unfollowed := true, recurses := true, named := ["unicode/utf8.first", "unicode/utf8.acceptRanges", "internal/bytealg.MaxLen"], apart := false, laid := [("unicode/utf8.acceptRanges", laid_unicode_utf8_acceptRanges), ("unicode/utf8.first", laid_unicode_utf8_first)] }
def NodesPlaysSaid : Prop := nodesPlaysRow.holds Tryz.pinned (OpenSpec.ofChange nodesPlaysSpec)

/-- ITS FALSE NEIGHBOUR: 'it returns false'. Refute it at one input. -/
def nodesPlaysWrong : ChangeSpec := { name := "nodesPlays", fn := fun _ => fun
  | [d1, d2] => { results := [.lit (.bool false)], args := [d1, d2] }
  | _ => none }
def NodesPlaysWrongFalsely : Prop := nodesPlaysRow.holds Tryz.pinned (OpenSpec.ofChange nodesPlaysWrong)

/-- 'pentimentolaw20.ScrubTells': WHATEVER THE INPUT: true; the input reads as it did. -/
def scrubTellsSpec : ChangeSpec := { name := "scrubTells", fn := fun _ => fun
  | [d1, d2] => { results := [.lit (.bool true)], args := [d1, d2] }
  | _ => none }
def scrubTellsRow : OpenClaim := { program := "ytlgopekjjkdkiaagreatdoor", sum := "22766488f2c3000da03df6cf3f427e7e5e92565548de12a62084c8f5c2ad0df2", func := "pentimento/pentimentolaw20.ScrubTells", spec := "scrubTells", inPlace := ["internal/abi.NoEscape", "internal/bytealg.MakeNoZero", "internal/bytealg.IndexByteString", "internal/bytealg.IndexString"], unfollowed := true, recurses := true, named := ["unicode/utf8.first", "unicode/utf8.acceptRanges", "internal/bytealg.MaxLen"], apart := false, laid := [("unicode/utf8.acceptRanges", laid_unicode_utf8_acceptRanges), ("unicode/utf8.first", laid_unicode_utf8_first)] }
def ScrubTellsSaid : Prop := scrubTellsRow.holds Tryz.pinned (OpenSpec.ofChange scrubTellsSpec)

/-- ITS FALSE NEIGHBOUR: 'it returns false'. Refute it at one input. -/
def scrubTellsWrong : ChangeSpec := { name := "scrubTells", fn := fun _ => fun
  | [d1, d2] => { results := [.lit (.bool false)], args := [d1, d2] }
  | _ => none }
def ScrubTellsWrongFalsely : Prop := scrubTellsRow.holds Tryz.pinned (OpenSpec.ofChange scrubTellsWrong)

/-- 'pentimentolaw20.ScrubFinds': WHATEVER THE INPUT: true; the input reads as it did. -/
def scrubFindsSpec : ChangeSpec := { name := "scrubFinds", fn := fun _ => fun
  | [d1, d2, d3, d4] => { results := [.lit (.bool true)], args := [d1, d2, d3, d4] }
  | _ => none }
def scrubFindsRow : OpenClaim := { program := "ytlgopekjjkdkiaagreatdoor", sum := "22766488f2c3000da03df6cf3f427e7e5e92565548de12a62084c8f5c2ad0df2", func := "pentimento/pentimentolaw20.ScrubFinds", spec := "scrubFinds", inPlace := ["internal/abi.NoEscape", "internal/bytealg.MakeNoZero", "internal/bytealg.IndexByteString", "internal/bytealg.IndexString"], unfollowed := true, recurses := true, named := ["unicode/utf8.first", "unicode/utf8.acceptRanges", "internal/bytealg.MaxLen"], apart := false, laid := [("unicode/utf8.acceptRanges", laid_unicode_utf8_acceptRanges), ("unicode/utf8.first", laid_unicode_utf8_first)] }
def ScrubFindsSaid : Prop := scrubFindsRow.holds Tryz.pinned (OpenSpec.ofChange scrubFindsSpec)

/-- ITS FALSE NEIGHBOUR: 'it returns false'. Refute it at one input. -/
def scrubFindsWrong : ChangeSpec := { name := "scrubFinds", fn := fun _ => fun
  | [d1, d2, d3, d4] => { results := [.lit (.bool false)], args := [d1, d2, d3, d4] }
  | _ => none }
def ScrubFindsWrongFalsely : Prop := scrubFindsRow.holds Tryz.pinned (OpenSpec.ofChange scrubFindsWrong)

/-- 'pentimentolaw20.ScrubEquals': WHATEVER THE INPUT: true; the input reads as it did. -/
def scrubEqualsSpec : ChangeSpec := { name := "scrubEquals", fn := fun _ => fun
  | [d1, d2, d3, d4] => { results := [.lit (.bool true)], args := [d1, d2, d3, d4] }
  | _ => none }
def scrubEqualsRow : OpenClaim := { program := "ytlgopekjjkdkiaagreatdoor", sum := "22766488f2c3000da03df6cf3f427e7e5e92565548de12a62084c8f5c2ad0df2", func := "pentimento/pentimentolaw20.ScrubEquals", spec := "scrubEquals", inPlace := ["internal/abi.NoEscape", "internal/bytealg.MakeNoZero", "internal/bytealg.IndexByteString", "internal/bytealg.IndexString"], unfollowed := true, recurses := true, named := ["unicode/utf8.first", "unicode/utf8.acceptRanges", "internal/bytealg.MaxLen"], apart := false, laid := [("unicode/utf8.acceptRanges", laid_unicode_utf8_acceptRanges), ("unicode/utf8.first", laid_unicode_utf8_first)] }
def ScrubEqualsSaid : Prop := scrubEqualsRow.holds Tryz.pinned (OpenSpec.ofChange scrubEqualsSpec)

/-- ITS FALSE NEIGHBOUR: 'it returns false'. Refute it at one input. -/
def scrubEqualsWrong : ChangeSpec := { name := "scrubEquals", fn := fun _ => fun
  | [d1, d2, d3, d4] => { results := [.lit (.bool false)], args := [d1, d2, d3, d4] }
  | _ => none }
def ScrubEqualsWrongFalsely : Prop := scrubEqualsRow.holds Tryz.pinned (OpenSpec.ofChange scrubEqualsWrong)

/- THE SECOND FORM. 'bulk': how many values and letters a reading holds, each counted each time it is reached (what is shared counts as often as it is met; a slice's spare places count too). A statement '..UptoSaid' is the law's where the arguments, and the package variables that the reading takes, are together of bulk at most 1048576: NARROWER than '..Said'. Prove '..Said' where nothing that the law and all that it calls make is longer than what came in: it says more and counts as full. Else prove '..UptoSaid'. A law counts once. -/
mutual
def uptoBulk {H : Type} : DataW H → Nat
  | .lit (.string bytes) => bytes.length + 1
  | .lit _ => 1
  | .nil => 1
  | .ptr d => uptoBulk d + 1
  | .slice elems spare => uptoBulkAll elems + uptoBulkAll spare + 1
  | .agg parts => uptoBulkAll parts + 1
  | .iface _ d => uptoBulk d + 1
  | .map entries => uptoBulkEntries entries + 1
  | .held _ => 1
def uptoBulkAll {H : Type} : List (DataW H) → Nat
  | [] => 0
  | d :: r => uptoBulk d + uptoBulkAll r
def uptoBulkEntries {H : Type} : List (Lit × DataW H) → Nat
  | [] => 0
  | x :: r => uptoBulkEntry x + uptoBulkEntries r
def uptoBulkEntry {H : Type} : Lit × DataW H → Nat
  | (.string bytes, d) => bytes.length + uptoBulk d + 1
  | (_, d) => uptoBulk d + 1
 end
def uptoSmall : (H : Type) → List (DataW H) → Bool := fun _ ds => decide (uptoBulkAll ds ≤ 1048576)
def OpenSpec.upto (s : _root_.Go.ChangeSpec) : _root_.Go.OpenSpec := { _root_.Go.OpenSpec.ofChange s with cond := some uptoSmall }

/-- 'pentimentolaw17.CowPlays', WHERE WHAT IT READS IS OF BULK AT MOST 1048576: true; the input reads as it did. -/
def cowPlaysUptoRow : OpenClaim := { program := "ytlgopekjjkdkiaagreatdoor", sum := "22766488f2c3000da03df6cf3f427e7e5e92565548de12a62084c8f5c2ad0df2", func := "pentimento/pentimentolaw17.CowPlays", spec := "cowPlays", inPlace := ["internal/abi.NoEscape", "internal/bytealg.MakeNoZero", "internal/bytealg.IndexByteString", "internal/bytealg.IndexString"], unfollowed := true, recurses := true, named := ["unicode/utf8.first", "unicode/utf8.acceptRanges", "internal/bytealg.MaxLen"], apart := false, laid := [("unicode/utf8.acceptRanges", laid_unicode_utf8_acceptRanges), ("unicode/utf8.first", laid_unicode_utf8_first)], narrowed := true }
def CowPlaysUptoSaid : Prop := cowPlaysUptoRow.holds Tryz.pinned (OpenSpec.upto cowPlaysSpec)

/-- 'pentimentolaw15.UndoPlays', WHERE WHAT IT READS IS OF BULK AT MOST 1048576: true; the input reads as it did. -/
def undoPlaysUptoRow : OpenClaim := { program := "ytlgopekjjkdkiaagreatdoor", sum := "22766488f2c3000da03df6cf3f427e7e5e92565548de12a62084c8f5c2ad0df2", func := "pentimento/pentimentolaw15.UndoPlays", spec := "undoPlays", inPlace := ["internal/abi.NoEscape", "internal/bytealg.MakeNoZero", "internal/bytealg.IndexByteString", "internal/bytealg.IndexString"], unfollowed := true, recurses := true, named := ["unicode/utf8.first", "unicode/utf8.acceptRanges", "internal/bytealg.MaxLen"], apart := false, laid := [("unicode/utf8.acceptRanges", laid_unicode_utf8_acceptRanges), ("unicode/utf8.first", laid_unicode_utf8_first)], narrowed := true }
def UndoPlaysUptoSaid : Prop := undoPlaysUptoRow.holds Tryz.pinned (OpenSpec.upto undoPlaysSpec)

/-- 'pentimentolaw16.RollBack', WHERE WHAT IT READS IS OF BULK AT MOST 1048576: true; the input reads as it did. -/
def rollBackUptoRow : OpenClaim := { program := "ytlgopekjjkdkiaagreatdoor", sum := "22766488f2c3000da03df6cf3f427e7e5e92565548de12a62084c8f5c2ad0df2", func := "pentimento/pentimentolaw16.RollBack", spec := "rollBack", inPlace := ["internal/abi.NoEscape", "internal/bytealg.MakeNoZero", "internal/bytealg.IndexByteString", "internal/bytealg.IndexString"], unfollowed := true, recurses := true, named := ["unicode/utf8.first", "unicode/utf8.acceptRanges", "internal/bytealg.MaxLen"], apart := false, laid := [("unicode/utf8.acceptRanges", laid_unicode_utf8_acceptRanges), ("unicode/utf8.first", laid_unicode_utf8_first)], narrowed := true }
def RollBackUptoSaid : Prop := rollBackUptoRow.holds Tryz.pinned (OpenSpec.upto rollBackSpec)

/-- 'pentimentolaw13.NodesFresh', WHERE WHAT IT READS IS OF BULK AT MOST 1048576: true; the input reads as it did. -/
def nodesFreshUptoRow : OpenClaim := { program := "ytlgopekjjkdkiaagreatdoor", sum := "22766488f2c3000da03df6cf3f427e7e5e92565548de12a62084c8f5c2ad0df2", func := "pentimento/pentimentolaw13.NodesFresh", spec := "nodesFresh", inPlace := ["internal/abi.NoEscape", "internal/bytealg.MakeNoZero", "internal/bytealg.IndexByteString", "internal/bytealg.IndexString"], unfollowed := true, recurses := true, named := ["unicode/utf8.first", "unicode/utf8.acceptRanges", "internal/bytealg.MaxLen"], apart := false, laid := [("unicode/utf8.acceptRanges", laid_unicode_utf8_acceptRanges), ("unicode/utf8.first", laid_unicode_utf8_first)], narrowed := true }
def NodesFreshUptoSaid : Prop := nodesFreshUptoRow.holds Tryz.pinned (OpenSpec.upto nodesFreshSpec)

/-- 'pentimentolaw13.NodesPlays', WHERE WHAT IT READS IS OF BULK AT MOST 1048576: true; the input reads as it did. -/
def nodesPlaysUptoRow : OpenClaim := { program := "ytlgopekjjkdkiaagreatdoor", sum := "22766488f2c3000da03df6cf3f427e7e5e92565548de12a62084c8f5c2ad0df2", func := "pentimento/pentimentolaw13.NodesPlays", spec := "nodesPlays", inPlace := ["internal/abi.NoEscape", "internal/bytealg.MakeNoZero", "internal/bytealg.IndexByteString", "internal/bytealg.IndexString"], unfollowed := true, recurses := true, named := ["unicode/utf8.first", "unicode/utf8.acceptRanges", "internal/bytealg.MaxLen"], apart := false, laid := [("unicode/utf8.acceptRanges", laid_unicode_utf8_acceptRanges), ("unicode/utf8.first", laid_unicode_utf8_first)], narrowed := true }
def NodesPlaysUptoSaid : Prop := nodesPlaysUptoRow.holds Tryz.pinned (OpenSpec.upto nodesPlaysSpec)

/-- 'pentimentolaw20.ScrubTells', WHERE WHAT IT READS IS OF BULK AT MOST 1048576: true; the input reads as it did. -/
def scrubTellsUptoRow : OpenClaim := { program := "ytlgopekjjkdkiaagreatdoor", sum := "22766488f2c3000da03df6cf3f427e7e5e92565548de12a62084c8f5c2ad0df2", func := "pentimento/pentimentolaw20.ScrubTells", spec := "scrubTells", inPlace := ["internal/abi.NoEscape", "internal/bytealg.MakeNoZero", "internal/bytealg.IndexByteString", "internal/bytealg.IndexString"], unfollowed := true, recurses := true, named := ["unicode/utf8.first", "unicode/utf8.acceptRanges", "internal/bytealg.MaxLen"], apart := false, laid := [("unicode/utf8.acceptRanges", laid_unicode_utf8_acceptRanges), ("unicode/utf8.first", laid_unicode_utf8_first)], narrowed := true }
def ScrubTellsUptoSaid : Prop := scrubTellsUptoRow.holds Tryz.pinned (OpenSpec.upto scrubTellsSpec)

/-- 'pentimentolaw20.ScrubFinds', WHERE WHAT IT READS IS OF BULK AT MOST 1048576: true; the input reads as it did. -/
def scrubFindsUptoRow : OpenClaim := { program := "ytlgopekjjkdkiaagreatdoor", sum := "22766488f2c3000da03df6cf3f427e7e5e92565548de12a62084c8f5c2ad0df2", func := "pentimento/pentimentolaw20.ScrubFinds", spec := "scrubFinds", inPlace := ["internal/abi.NoEscape", "internal/bytealg.MakeNoZero", "internal/bytealg.IndexByteString", "internal/bytealg.IndexString"], unfollowed := true, recurses := true, named := ["unicode/utf8.first", "unicode/utf8.acceptRanges", "internal/bytealg.MaxLen"], apart := false, laid := [("unicode/utf8.acceptRanges", laid_unicode_utf8_acceptRanges), ("unicode/utf8.first", laid_unicode_utf8_first)], narrowed := true }
def ScrubFindsUptoSaid : Prop := scrubFindsUptoRow.holds Tryz.pinned (OpenSpec.upto scrubFindsSpec)

/-- 'pentimentolaw20.ScrubEquals', WHERE WHAT IT READS IS OF BULK AT MOST 1048576: true; the input reads as it did. -/
def scrubEqualsUptoRow : OpenClaim := { program := "ytlgopekjjkdkiaagreatdoor", sum := "22766488f2c3000da03df6cf3f427e7e5e92565548de12a62084c8f5c2ad0df2", func := "pentimento/pentimentolaw20.ScrubEquals", spec := "scrubEquals", inPlace := ["internal/abi.NoEscape", "internal/bytealg.MakeNoZero", "internal/bytealg.IndexByteString", "internal/bytealg.IndexString"], unfollowed := true, recurses := true, named := ["unicode/utf8.first", "unicode/utf8.acceptRanges", "internal/bytealg.MaxLen"], apart := false, laid := [("unicode/utf8.acceptRanges", laid_unicode_utf8_acceptRanges), ("unicode/utf8.first", laid_unicode_utf8_first)], narrowed := true }
def ScrubEqualsUptoSaid : Prop := scrubEqualsUptoRow.holds Tryz.pinned (OpenSpec.upto scrubEqualsSpec)

end Rows
end Go.Proofs.YtlgopekjjkdkiaaGreatDoor
