/-
  NARROWER THAN 'FOR EVERY INPUT', by the rows' own cells (each row's printed sentence says how): RecMakes: laid · RecOpens: laid · RecByte: laid · RecVolumes: laid · SlotKeeps: laid · SlotPlays: laid · DirtyKeeps: laid.
  DERIVED. THE GIVEN ROWS OF THIS SEAT. 7 by the template 'for every input the law returns true; each argument reads behind the call as it read before'; 0 by the template 'total and deterministic' (their statements: YtillbabmlfjegaaDoorTotals.lean).
  GIVEN WITH THE SEED: the statements are not yours to turn. If you find one false, say at which input.
  Laid BY PROGRAM, IN A SANDBOX (cutbox-rows.mjs): the forced cells as the released guide's own fill.sh prints them over the translation 7c804fb4a9495d9d… (all of the seat's roots in one cut). By AI agents, Wed Nov 11 2026. No macro, syntax, notation, axiom, sorry.
-/
import Derived.Test.YtillbabmlfjegaaDoorChecked
import GoSem.PinnedTables
import GoSem.Claim
import GoSem.ClaimJoined
import GoSem.ClaimMapViews
import Derived.JoinedTies
import Derived.KernelRfl
namespace Go.Proofs.YtillbabmlfjegaaDoor
/- THE CELL 'sum', in the pinned program and in every row, IS THE sha256 OF THE DUMP (.gsa) THAT YtillbabmlfjegaaDoorProg.lean LOADS. Nothing in Lean hashes anything: it is a label: what it is worth is what the hold of that sum in a sandbox is worth. -/
noncomputable def Tryd.pinned : Pinned := { name := "ytillbabmlfjegaadoor", sum := "7c804fb4a9495d9d3dc947bc0a0dca5b947df01594653ce0dde761685df85b7a", checked := Tryd.checked }
namespace Rows
def none {H : Type} : Left H := { results := [], args := [] }

/- WHAT THE LISTED PACKAGE-LEVEL VARIABLES READ AS WHEN THE CALL BEGINS. Each datum BY PROGRAM (the guide's laid-datum.mjs) off the statement by which the dump's own 'gosem.cut.vars' lays the variable. In a bare row this is a premise. The card (YtillbabmlfjegaaDoorCards.lean) ties it to the program's text. -/
def laid_unicode_utf8_acceptRanges {H : Type} : DataW H := .agg [.agg [.lit (.int .u8 128), .lit (.int .u8 191)], .agg [.lit (.int .u8 160), .lit (.int .u8 191)], .agg [.lit (.int .u8 128), .lit (.int .u8 159)], .agg [.lit (.int .u8 144), .lit (.int .u8 191)], .agg [.lit (.int .u8 128), .lit (.int .u8 143)], .agg [.lit (.int .u8 0), .lit (.int .u8 0)], .agg [.lit (.int .u8 0), .lit (.int .u8 0)], .agg [.lit (.int .u8 0), .lit (.int .u8 0)], .agg [.lit (.int .u8 0), .lit (.int .u8 0)], .agg [.lit (.int .u8 0), .lit (.int .u8 0)], .agg [.lit (.int .u8 0), .lit (.int .u8 0)], .agg [.lit (.int .u8 0), .lit (.int .u8 0)], .agg [.lit (.int .u8 0), .lit (.int .u8 0)], .agg [.lit (.int .u8 0), .lit (.int .u8 0)], .agg [.lit (.int .u8 0), .lit (.int .u8 0)], .agg [.lit (.int .u8 0), .lit (.int .u8 0)]]
/-- One of Go's own tables, pinned by name: the form's constant. -/
def laid_unicode_utf8_first : DataW Unit := Go.Pinned.utf8First

/-- 'pentimentolaw08.RecMakes': WHATEVER THE INPUT: true; the input reads as it did. -/
def recMakesSpec : ChangeSpec := { name := "recMakes", fn := fun _ => fun
  | [d1, d2] => { results := [.lit (.bool true)], args := [d1, d2] }
  | _ => none }
def recMakesRow : OpenClaim := { program := "ytillbabmlfjegaadoor", sum := "7c804fb4a9495d9d3dc947bc0a0dca5b947df01594653ce0dde761685df85b7a", func := "pentimento/pentimentolaw08.RecMakes", spec := "recMakes", inPlace := ["internal/abi.NoEscape", "internal/bytealg.MakeNoZero", "internal/bytealg.IndexByteString", "internal/bytealg.IndexString"], named := ["unicode/utf8.first", "unicode/utf8.acceptRanges", "internal/bytealg.MaxLen"], apart := false, laid := [("unicode/utf8.acceptRanges", laid_unicode_utf8_acceptRanges), ("unicode/utf8.first", laid_unicode_utf8_first)] }
def RecMakesSaid : Prop := recMakesRow.holds Tryd.pinned (OpenSpec.ofChange recMakesSpec)

/-- ITS FALSE NEIGHBOUR: 'it returns false'. Refute it at one input. -/
def recMakesWrong : ChangeSpec := { name := "recMakes", fn := fun _ => fun
  | [d1, d2] => { results := [.lit (.bool false)], args := [d1, d2] }
  | _ => none }
def RecMakesWrongFalsely : Prop := recMakesRow.holds Tryd.pinned (OpenSpec.ofChange recMakesWrong)

/-- 'pentimentolaw08.RecOpens': WHATEVER THE INPUT: true; the input reads as it did. -/
def recOpensSpec : ChangeSpec := { name := "recOpens", fn := fun _ => fun
  | [d1, d2] => { results := [.lit (.bool true)], args := [d1, d2] }
  | _ => none }
def recOpensRow : OpenClaim := { program := "ytillbabmlfjegaadoor", sum := "7c804fb4a9495d9d3dc947bc0a0dca5b947df01594653ce0dde761685df85b7a", func := "pentimento/pentimentolaw08.RecOpens", spec := "recOpens", inPlace := ["internal/bytealg.IndexByteString", "internal/bytealg.IndexString", "internal/abi.NoEscape", "internal/bytealg.MakeNoZero"], named := ["unicode/utf8.first", "unicode/utf8.acceptRanges", "internal/bytealg.MaxLen"], apart := false, laid := [("unicode/utf8.acceptRanges", laid_unicode_utf8_acceptRanges), ("unicode/utf8.first", laid_unicode_utf8_first)] }
def RecOpensSaid : Prop := recOpensRow.holds Tryd.pinned (OpenSpec.ofChange recOpensSpec)

/-- ITS FALSE NEIGHBOUR: 'it returns false'. Refute it at one input. -/
def recOpensWrong : ChangeSpec := { name := "recOpens", fn := fun _ => fun
  | [d1, d2] => { results := [.lit (.bool false)], args := [d1, d2] }
  | _ => none }
def RecOpensWrongFalsely : Prop := recOpensRow.holds Tryd.pinned (OpenSpec.ofChange recOpensWrong)

/-- 'pentimentolaw08.RecByte': WHATEVER THE INPUT: true; the input reads as it did. -/
def recByteSpec : ChangeSpec := { name := "recByte", fn := fun _ => fun
  | [d1, d2, d3, d4] => { results := [.lit (.bool true)], args := [d1, d2, d3, d4] }
  | _ => none }
def recByteRow : OpenClaim := { program := "ytillbabmlfjegaadoor", sum := "7c804fb4a9495d9d3dc947bc0a0dca5b947df01594653ce0dde761685df85b7a", func := "pentimento/pentimentolaw08.RecByte", spec := "recByte", inPlace := ["internal/abi.NoEscape", "internal/bytealg.MakeNoZero", "internal/bytealg.IndexByteString", "internal/bytealg.IndexString"], named := ["unicode/utf8.first", "unicode/utf8.acceptRanges", "internal/bytealg.MaxLen"], apart := false, laid := [("unicode/utf8.acceptRanges", laid_unicode_utf8_acceptRanges), ("unicode/utf8.first", laid_unicode_utf8_first)] }
def RecByteSaid : Prop := recByteRow.holds Tryd.pinned (OpenSpec.ofChange recByteSpec)

/-- ITS FALSE NEIGHBOUR: 'it returns false'. Refute it at one input. -/
def recByteWrong : ChangeSpec := { name := "recByte", fn := fun _ => fun
  | [d1, d2, d3, d4] => { results := [.lit (.bool false)], args := [d1, d2, d3, d4] }
  | _ => none }
def RecByteWrongFalsely : Prop := recByteRow.holds Tryd.pinned (OpenSpec.ofChange recByteWrong)

/-- 'pentimentolaw08.RecVolumes': WHATEVER THE INPUT: true; the input reads as it did. -/
def recVolumesSpec : ChangeSpec := { name := "recVolumes", fn := fun _ => fun
  | [d1, d2, d3] => { results := [.lit (.bool true)], args := [d1, d2, d3] }
  | _ => none }
def recVolumesRow : OpenClaim := { program := "ytillbabmlfjegaadoor", sum := "7c804fb4a9495d9d3dc947bc0a0dca5b947df01594653ce0dde761685df85b7a", func := "pentimento/pentimentolaw08.RecVolumes", spec := "recVolumes", inPlace := ["internal/abi.NoEscape", "internal/bytealg.MakeNoZero", "internal/bytealg.IndexByteString", "internal/bytealg.IndexString"], unfollowed := true, recurses := true, named := ["unicode/utf8.first", "unicode/utf8.acceptRanges", "internal/bytealg.MaxLen"], apart := false, laid := [("unicode/utf8.acceptRanges", laid_unicode_utf8_acceptRanges), ("unicode/utf8.first", laid_unicode_utf8_first)] }
def RecVolumesSaid : Prop := recVolumesRow.holds Tryd.pinned (OpenSpec.ofChange recVolumesSpec)

/-- ITS FALSE NEIGHBOUR: 'it returns false'. Refute it at one input. -/
def recVolumesWrong : ChangeSpec := { name := "recVolumes", fn := fun _ => fun
  | [d1, d2, d3] => { results := [.lit (.bool false)], args := [d1, d2, d3] }
  | _ => none }
def RecVolumesWrongFalsely : Prop := recVolumesRow.holds Tryd.pinned (OpenSpec.ofChange recVolumesWrong)

/-- 'pentimentolaw09.SlotKeeps': WHATEVER THE INPUT: true; the input reads as it did. -/
def slotKeepsSpec : ChangeSpec := { name := "slotKeeps", fn := fun _ => fun
  | [d1, d2, d3, d4] => { results := [.lit (.bool true)], args := [d1, d2, d3, d4] }
  | _ => none }
def slotKeepsRow : OpenClaim := { program := "ytillbabmlfjegaadoor", sum := "7c804fb4a9495d9d3dc947bc0a0dca5b947df01594653ce0dde761685df85b7a", func := "pentimento/pentimentolaw09.SlotKeeps", spec := "slotKeeps", inPlace := ["internal/abi.NoEscape", "internal/bytealg.MakeNoZero", "internal/bytealg.IndexByteString", "internal/bytealg.IndexString"], unfollowed := true, recurses := true, named := ["unicode/utf8.first", "unicode/utf8.acceptRanges", "internal/bytealg.MaxLen"], apart := false, laid := [("unicode/utf8.acceptRanges", laid_unicode_utf8_acceptRanges), ("unicode/utf8.first", laid_unicode_utf8_first)] }
def SlotKeepsSaid : Prop := slotKeepsRow.holds Tryd.pinned (OpenSpec.ofChange slotKeepsSpec)

/-- ITS FALSE NEIGHBOUR: 'it returns false'. Refute it at one input. -/
def slotKeepsWrong : ChangeSpec := { name := "slotKeeps", fn := fun _ => fun
  | [d1, d2, d3, d4] => { results := [.lit (.bool false)], args := [d1, d2, d3, d4] }
  | _ => none }
def SlotKeepsWrongFalsely : Prop := slotKeepsRow.holds Tryd.pinned (OpenSpec.ofChange slotKeepsWrong)

/-- 'pentimentolaw09.SlotPlays': WHATEVER THE INPUT: true; the input reads as it did. -/
def slotPlaysSpec : ChangeSpec := { name := "slotPlays", fn := fun _ => fun
  | [d] => { results := [.lit (.bool true)], args := [d] }
  | _ => none }
def slotPlaysRow : OpenClaim := { program := "ytillbabmlfjegaadoor", sum := "7c804fb4a9495d9d3dc947bc0a0dca5b947df01594653ce0dde761685df85b7a", func := "pentimento/pentimentolaw09.SlotPlays", spec := "slotPlays", inPlace := ["internal/abi.NoEscape", "internal/bytealg.MakeNoZero", "internal/bytealg.IndexByteString", "internal/bytealg.IndexString"], unfollowed := true, recurses := true, named := ["unicode/utf8.first", "unicode/utf8.acceptRanges", "internal/bytealg.MaxLen"], apart := false, laid := [("unicode/utf8.acceptRanges", laid_unicode_utf8_acceptRanges), ("unicode/utf8.first", laid_unicode_utf8_first)] }
def SlotPlaysSaid : Prop := slotPlaysRow.holds Tryd.pinned (OpenSpec.ofChange slotPlaysSpec)

/-- ITS FALSE NEIGHBOUR: 'it returns false'. Refute it at one input. -/
def slotPlaysWrong : ChangeSpec := { name := "slotPlays", fn := fun _ => fun
  | [d] => { results := [.lit (.bool false)], args := [d] }
  | _ => none }
def SlotPlaysWrongFalsely : Prop := slotPlaysRow.holds Tryd.pinned (OpenSpec.ofChange slotPlaysWrong)

/-- 'pentimentolaw11.DirtyKeeps': WHATEVER THE INPUT: true; the input reads as it did. -/
def dirtyKeepsSpec : ChangeSpec := { name := "dirtyKeeps", fn := fun _ => fun
  | [d1, d2, d3] => { results := [.lit (.bool true)], args := [d1, d2, d3] }
  | _ => none }
def dirtyKeepsRow : OpenClaim := { program := "ytillbabmlfjegaadoor", sum := "7c804fb4a9495d9d3dc947bc0a0dca5b947df01594653ce0dde761685df85b7a", func := "pentimento/pentimentolaw11.DirtyKeeps", spec := "dirtyKeeps", inPlace := ["internal/abi.NoEscape", "internal/bytealg.MakeNoZero", "internal/bytealg.IndexByteString", "internal/bytealg.IndexString"], unfollowed := true, recurses := true, named := ["unicode/utf8.first", "unicode/utf8.acceptRanges", "internal/bytealg.MaxLen"], apart := false, laid := [("unicode/utf8.acceptRanges", laid_unicode_utf8_acceptRanges), ("unicode/utf8.first", laid_unicode_utf8_first)] }
def DirtyKeepsSaid : Prop := dirtyKeepsRow.holds Tryd.pinned (OpenSpec.ofChange dirtyKeepsSpec)

/-- ITS FALSE NEIGHBOUR: 'it returns false'. Refute it at one input. -/
def dirtyKeepsWrong : ChangeSpec := { name := "dirtyKeeps", fn := fun _ => fun
  | [d1, d2, d3] => { results := [.lit (.bool false)], args := [d1, d2, d3] }
  | _ => none }
def DirtyKeepsWrongFalsely : Prop := dirtyKeepsRow.holds Tryd.pinned (OpenSpec.ofChange dirtyKeepsWrong)

/- THE SECOND FORM. 'bulk': how many values and letters a reading holds, each counted each time it is reached (what is shared counts as often as it is met; a slice's spare places count too). A statement '..UptoSaid' is the law's where the arguments, and the package variables that the reading takes, are together of bulk at most 1048576: NARROWER than '..Said'. Prove '..Said' where nothing that the law and all that it calls make is longer than what came in: it says more and counts as full. Else prove '..UptoSaid'. A law counts once. -/
mutual
def uptoBulk {H : Type} : DataW H → Nat
  | .lit (.string bytes) => bytes.length + 1
  | .lit _ => 1
  | .nil => 1
  | .ptr d => uptoBulk d + 1
  | .slice elems spare => uptoBulkAll elems + uptoBulkAll spare + 1
  | .agg parts => uptoBulkAll parts + 1
  | .iface _ d => uptoBulk d + 1
  | .map entries => uptoBulkEntries entries + 1
  | .held _ => 1
def uptoBulkAll {H : Type} : List (DataW H) → Nat
  | [] => 0
  | d :: r => uptoBulk d + uptoBulkAll r
def uptoBulkEntries {H : Type} : List (Lit × DataW H) → Nat
  | [] => 0
  | x :: r => uptoBulkEntry x + uptoBulkEntries r
def uptoBulkEntry {H : Type} : Lit × DataW H → Nat
  | (.string bytes, d) => bytes.length + uptoBulk d + 1
  | (_, d) => uptoBulk d + 1
 end
def uptoSmall : (H : Type) → List (DataW H) → Bool := fun _ ds => decide (uptoBulkAll ds ≤ 1048576)
def OpenSpec.upto (s : _root_.Go.ChangeSpec) : _root_.Go.OpenSpec := { _root_.Go.OpenSpec.ofChange s with cond := some uptoSmall }

/-- 'pentimentolaw08.RecMakes', WHERE WHAT IT READS IS OF BULK AT MOST 1048576: true; the input reads as it did. -/
def recMakesUptoRow : OpenClaim := { program := "ytillbabmlfjegaadoor", sum := "7c804fb4a9495d9d3dc947bc0a0dca5b947df01594653ce0dde761685df85b7a", func := "pentimento/pentimentolaw08.RecMakes", spec := "recMakes", inPlace := ["internal/abi.NoEscape", "internal/bytealg.MakeNoZero", "internal/bytealg.IndexByteString", "internal/bytealg.IndexString"], named := ["unicode/utf8.first", "unicode/utf8.acceptRanges", "internal/bytealg.MaxLen"], apart := false, laid := [("unicode/utf8.acceptRanges", laid_unicode_utf8_acceptRanges), ("unicode/utf8.first", laid_unicode_utf8_first)], narrowed := true }
def RecMakesUptoSaid : Prop := recMakesUptoRow.holds Tryd.pinned (OpenSpec.upto recMakesSpec)

/-- 'pentimentolaw08.RecOpens', WHERE WHAT IT READS IS OF BULK AT MOST 1048576: true; the input reads as it did. -/
def recOpensUptoRow : OpenClaim := { program := "ytillbabmlfjegaadoor", sum := "7c804fb4a9495d9d3dc947bc0a0dca5b947df01594653ce0dde761685df85b7a", func := "pentimento/pentimentolaw08.RecOpens", spec := "recOpens", inPlace := ["internal/bytealg.IndexByteString", "internal/bytealg.IndexString", "internal/abi.NoEscape", "internal/bytealg.MakeNoZero"], named := ["unicode/utf8.first", "unicode/utf8.acceptRanges", "internal/bytealg.MaxLen"], apart := false, laid := [("unicode/utf8.acceptRanges", laid_unicode_utf8_acceptRanges), ("unicode/utf8.first", laid_unicode_utf8_first)], narrowed := true }
def RecOpensUptoSaid : Prop := recOpensUptoRow.holds Tryd.pinned (OpenSpec.upto recOpensSpec)

/-- 'pentimentolaw08.RecByte', WHERE WHAT IT READS IS OF BULK AT MOST 1048576: true; the input reads as it did. -/
def recByteUptoRow : OpenClaim := { program := "ytillbabmlfjegaadoor", sum := "7c804fb4a9495d9d3dc947bc0a0dca5b947df01594653ce0dde761685df85b7a", func := "pentimento/pentimentolaw08.RecByte", spec := "recByte", inPlace := ["internal/abi.NoEscape", "internal/bytealg.MakeNoZero", "internal/bytealg.IndexByteString", "internal/bytealg.IndexString"], named := ["unicode/utf8.first", "unicode/utf8.acceptRanges", "internal/bytealg.MaxLen"], apart := false, laid := [("unicode/utf8.acceptRanges", laid_unicode_utf8_acceptRanges), ("unicode/utf8.first", laid_unicode_utf8_first)], narrowed := true }
def RecByteUptoSaid : Prop := recByteUptoRow.holds Tryd.pinned (OpenSpec.upto recByteSpec)

/-- 'pentimentolaw08.RecVolumes', WHERE WHAT IT READS IS OF BULK AT MOST 1048576: true; the input reads as it did. -/
def recVolumesUptoRow : OpenClaim := { program := "ytillbabmlfjegaadoor", sum := "7c804fb4a9495d9d3dc947bc0a0dca5b947df01594653ce0dde761685df85b7a", func := "pentimento/pentimentolaw08.RecVolumes", spec := "recVolumes", inPlace := ["internal/abi.NoEscape", "internal/bytealg.MakeNoZero", "internal/bytealg.IndexByteString", "internal/bytealg.IndexString"], unfollowed := true, recurses := true, named := ["unicode/utf8.first", "unicode/utf8.acceptRanges", "internal/bytealg.MaxLen"], apart := false, laid := [("unicode/utf8.acceptRanges", laid_unicode_utf8_acceptRanges), ("unicode/utf8.first", laid_unicode_utf8_first)], narrowed := true }
def RecVolumesUptoSaid : Prop := recVolumesUptoRow.holds Tryd.pinned (OpenSpec.upto recVolumesSpec)

/-- 'pentimentolaw09.SlotKeeps', WHERE WHAT IT READS IS OF BULK AT MOST 1048576: true; the input reads as it did. -/
def slotKeepsUptoRow : OpenClaim := { program := "ytillbabmlfjegaadoor", sum := "7c804fb4a9495d9d3dc947bc0a0dca5b947df01594653ce0dde761685df85b7a", func := "pentimento/pentimentolaw09.SlotKeeps", spec := "slotKeeps", inPlace := ["internal/abi.NoEscape", "internal/bytealg.MakeNoZero", "internal/bytealg.IndexByteString", "internal/bytealg.IndexString"], unfollowed := true, recurses := true, named := ["unicode/utf8.first", "unicode/utf8.acceptRanges", "internal/bytealg.MaxLen"], apart := false, laid := [("unicode/utf8.acceptRanges", laid_unicode_utf8_acceptRanges), ("unicode/utf8.first", laid_unicode_utf8_first)], narrowed := true }
def SlotKeepsUptoSaid : Prop := slotKeepsUptoRow.holds Tryd.pinned (OpenSpec.upto slotKeepsSpec)

/-- 'pentimentolaw09.SlotPlays', WHERE WHAT IT READS IS OF BULK AT MOST 1048576: true; the input reads as it did. -/
def slotPlaysUptoRow : OpenClaim := { program := "ytillbabmlfjegaadoor", sum := "7c804fb4a9495d9d3dc947bc0a0dca5b947df01594653ce0dde761685df85b7a", func := "pentimento/pentimentolaw09.SlotPlays", spec := "slotPlays", inPlace := ["internal/abi.NoEscape", "internal/bytealg.MakeNoZero", "internal/bytealg.IndexByteString", "internal/bytealg.IndexString"], unfollowed := true, recurses := true, named := ["unicode/utf8.first", "unicode/utf8.acceptRanges", "internal/bytealg.MaxLen"], apart := false, laid := [("unicode/utf8.acceptRanges", laid_unicode_utf8_acceptRanges), ("unicode/utf8.first", laid_unicode_utf8_first)], narrowed := true }
def SlotPlaysUptoSaid : Prop := slotPlaysUptoRow.holds Tryd.pinned (OpenSpec.upto slotPlaysSpec)

/-- 'pentimentolaw11.DirtyKeeps', WHERE WHAT IT READS IS OF BULK AT MOST 1048576: true; the input reads as it did. -/
def dirtyKeepsUptoRow : OpenClaim := { program := "ytillbabmlfjegaadoor", sum := "7c804fb4a9495d9d3dc947bc0a0dca5b947df01594653ce0dde761685df85b7a", func := "pentimento/pentimentolaw11.DirtyKeeps", spec := "dirtyKeeps", inPlace := ["internal/abi.NoEscape", "internal/bytealg.MakeNoZero", "internal/bytealg.IndexByteString", "internal/bytealg.IndexString"], unfollowed := true, recurses := true, named := ["unicode/utf8.first", "unicode/utf8.acceptRanges", "internal/bytealg.MaxLen"], apart := false, laid := [("unicode/utf8.acceptRanges", laid_unicode_utf8_acceptRanges), ("unicode/utf8.first", laid_unicode_utf8_first)], narrowed := true }
def DirtyKeepsUptoSaid : Prop := dirtyKeepsUptoRow.holds Tryd.pinned (OpenSpec.upto dirtyKeepsSpec)

end Rows
end Go.Proofs.YtillbabmlfjegaaDoor
