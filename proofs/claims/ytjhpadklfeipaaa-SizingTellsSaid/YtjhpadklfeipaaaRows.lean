/-
  No cell of these rows narrows 'for every input' (looked for: loops, veiled, ifaces, maps, wideKeys, modest, calm, conditions, laid).
  DERIVED. THE GIVEN ROWS OF THIS SEAT. 4 by the template 'for every input the law returns true; each argument reads behind the call as it read before'; 0 by the template 'total and deterministic' (their statements: YtjhpadklfeipaaaTotals.lean).
  GIVEN WITH THE SEED: the statements are not yours to turn. If you find one false, say at which input.
  Laid BY PROGRAM, IN A SANDBOX (cutbox-rows.mjs): the forced cells as the released guide's own fill.sh prints them over the translation 01c47ef2e6c636a8… (all of the seat's roots in one cut). By AI agents, Wed Nov 11 2026. No macro, syntax, notation, axiom, sorry.
-/
import Derived.Test.YtjhpadklfeipaaaChecked
import GoSem.Claim
import GoSem.ClaimJoined
import GoSem.ClaimMapViews
import Derived.JoinedTies
import Derived.KernelRfl
namespace Go.Proofs.Ytjhpadklfeipaaa
/- THE CELL 'sum', in the pinned program and in every row, IS THE sha256 OF THE DUMP (.gsa) THAT YtjhpadklfeipaaaProg.lean LOADS. Nothing in Lean hashes anything: it is a label: what it is worth is what the hold of that sum in a sandbox is worth. -/
noncomputable def Try.pinned : Pinned := { name := "ytjhpadklfeipaaa", sum := "01c47ef2e6c636a868bceb92e7dcd64c6def30ed14aebaef635e1a59ea6b68dd", checked := Try.checked }
namespace Rows
def none {H : Type} : Left H := { results := [], args := [] }

/-- 'pentimentolaw44.ForecastTells': WHATEVER THE INPUT: true; the input reads as it did. -/
def forecastTellsSpec : ChangeSpec := { name := "forecastTells", fn := fun _ => fun
  | [d1, d2] => { results := [.lit (.bool true)], args := [d1, d2] }
  | _ => none }
def forecastTellsRow : OpenClaim := { program := "ytjhpadklfeipaaa", sum := "01c47ef2e6c636a868bceb92e7dcd64c6def30ed14aebaef635e1a59ea6b68dd", func := "pentimento/pentimentolaw44.ForecastTells", spec := "forecastTells", apart := false }
def ForecastTellsSaid : Prop := forecastTellsRow.holds Try.pinned (OpenSpec.ofChange forecastTellsSpec)

/-- ITS FALSE NEIGHBOUR: 'it returns false'. Refute it at one input. -/
def forecastTellsWrong : ChangeSpec := { name := "forecastTells", fn := fun _ => fun
  | [d1, d2] => { results := [.lit (.bool false)], args := [d1, d2] }
  | _ => none }
def ForecastTellsWrongFalsely : Prop := forecastTellsRow.holds Try.pinned (OpenSpec.ofChange forecastTellsWrong)

/-- 'pentimentolaw44.ForecastNeeds': WHATEVER THE INPUT: true; the input reads as it did. -/
def forecastNeedsSpec : ChangeSpec := { name := "forecastNeeds", fn := fun _ => fun
  | [d1, d2] => { results := [.lit (.bool true)], args := [d1, d2] }
  | _ => none }
def forecastNeedsRow : OpenClaim := { program := "ytjhpadklfeipaaa", sum := "01c47ef2e6c636a868bceb92e7dcd64c6def30ed14aebaef635e1a59ea6b68dd", func := "pentimento/pentimentolaw44.ForecastNeeds", spec := "forecastNeeds", apart := false }
def ForecastNeedsSaid : Prop := forecastNeedsRow.holds Try.pinned (OpenSpec.ofChange forecastNeedsSpec)

/-- ITS FALSE NEIGHBOUR: 'it returns false'. Refute it at one input. -/
def forecastNeedsWrong : ChangeSpec := { name := "forecastNeeds", fn := fun _ => fun
  | [d1, d2] => { results := [.lit (.bool false)], args := [d1, d2] }
  | _ => none }
def ForecastNeedsWrongFalsely : Prop := forecastNeedsRow.holds Try.pinned (OpenSpec.ofChange forecastNeedsWrong)

/-- 'pentimentolaw36.SizingFits': WHATEVER THE INPUT: true; the input reads as it did. -/
def sizingFitsSpec : ChangeSpec := { name := "sizingFits", fn := fun _ => fun
  | [d1, d2, d3] => { results := [.lit (.bool true)], args := [d1, d2, d3] }
  | _ => none }
def sizingFitsRow : OpenClaim := { program := "ytjhpadklfeipaaa", sum := "01c47ef2e6c636a868bceb92e7dcd64c6def30ed14aebaef635e1a59ea6b68dd", func := "pentimento/pentimentolaw36.SizingFits", spec := "sizingFits", apart := false }
def SizingFitsSaid : Prop := sizingFitsRow.holds Try.pinned (OpenSpec.ofChange sizingFitsSpec)

/-- ITS FALSE NEIGHBOUR: 'it returns false'. Refute it at one input. -/
def sizingFitsWrong : ChangeSpec := { name := "sizingFits", fn := fun _ => fun
  | [d1, d2, d3] => { results := [.lit (.bool false)], args := [d1, d2, d3] }
  | _ => none }
def SizingFitsWrongFalsely : Prop := sizingFitsRow.holds Try.pinned (OpenSpec.ofChange sizingFitsWrong)

/-- 'pentimentolaw36.SizingTells': WHATEVER THE INPUT: true; the input reads as it did. -/
def sizingTellsSpec : ChangeSpec := { name := "sizingTells", fn := fun _ => fun
  | [d1, d2, d3] => { results := [.lit (.bool true)], args := [d1, d2, d3] }
  | _ => none }
def sizingTellsRow : OpenClaim := { program := "ytjhpadklfeipaaa", sum := "01c47ef2e6c636a868bceb92e7dcd64c6def30ed14aebaef635e1a59ea6b68dd", func := "pentimento/pentimentolaw36.SizingTells", spec := "sizingTells", apart := false }
def SizingTellsSaid : Prop := sizingTellsRow.holds Try.pinned (OpenSpec.ofChange sizingTellsSpec)

/-- ITS FALSE NEIGHBOUR: 'it returns false'. Refute it at one input. -/
def sizingTellsWrong : ChangeSpec := { name := "sizingTells", fn := fun _ => fun
  | [d1, d2, d3] => { results := [.lit (.bool false)], args := [d1, d2, d3] }
  | _ => none }
def SizingTellsWrongFalsely : Prop := sizingTellsRow.holds Try.pinned (OpenSpec.ofChange sizingTellsWrong)

/- THE SECOND FORM. 'bulk': how many values and letters a reading holds, each counted each time it is reached (what is shared counts as often as it is met; a slice's spare places count too). A statement '..UptoSaid' is the law's where the arguments, and the package variables that the reading takes, are together of bulk at most 1048576: NARROWER than '..Said'. Prove '..Said' where nothing that the law and all that it calls make is longer than what came in: it says more and counts as full. Else prove '..UptoSaid'. A law counts once. -/
mutual
def uptoBulk {H : Type} : DataW H → Nat
  | .lit (.string bytes) => bytes.length + 1
  | .lit _ => 1
  | .nil => 1
  | .ptr d => uptoBulk d + 1
  | .slice elems spare => uptoBulkAll elems + uptoBulkAll spare + 1
  | .agg parts => uptoBulkAll parts + 1
  | .iface _ d => uptoBulk d + 1
  | .map entries => uptoBulkEntries entries + 1
  | .held _ => 1
def uptoBulkAll {H : Type} : List (DataW H) → Nat
  | [] => 0
  | d :: r => uptoBulk d + uptoBulkAll r
def uptoBulkEntries {H : Type} : List (Lit × DataW H) → Nat
  | [] => 0
  | x :: r => uptoBulkEntry x + uptoBulkEntries r
def uptoBulkEntry {H : Type} : Lit × DataW H → Nat
  | (.string bytes, d) => bytes.length + uptoBulk d + 1
  | (_, d) => uptoBulk d + 1
 end
def uptoSmall : (H : Type) → List (DataW H) → Bool := fun _ ds => decide (uptoBulkAll ds ≤ 1048576)
def OpenSpec.upto (s : _root_.Go.ChangeSpec) : _root_.Go.OpenSpec := { _root_.Go.OpenSpec.ofChange s with cond := some uptoSmall }

/-- 'pentimentolaw44.ForecastTells', WHERE WHAT IT READS IS OF BULK AT MOST 1048576: true; the input reads as it did. -/
def forecastTellsUptoRow : OpenClaim := { program := "ytjhpadklfeipaaa", sum := "01c47ef2e6c636a868bceb92e7dcd64c6def30ed14aebaef635e1a59ea6b68dd", func := "pentimento/pentimentolaw44.ForecastTells", spec := "forecastTells", apart := false, narrowed := true }
def ForecastTellsUptoSaid : Prop := forecastTellsUptoRow.holds Try.pinned (OpenSpec.upto forecastTellsSpec)

/-- 'pentimentolaw44.ForecastNeeds', WHERE WHAT IT READS IS OF BULK AT MOST 1048576: true; the input reads as it did. -/
def forecastNeedsUptoRow : OpenClaim := { program := "ytjhpadklfeipaaa", sum := "01c47ef2e6c636a868bceb92e7dcd64c6def30ed14aebaef635e1a59ea6b68dd", func := "pentimento/pentimentolaw44.ForecastNeeds", spec := "forecastNeeds", apart := false, narrowed := true }
def ForecastNeedsUptoSaid : Prop := forecastNeedsUptoRow.holds Try.pinned (OpenSpec.upto forecastNeedsSpec)

/-- 'pentimentolaw36.SizingFits', WHERE WHAT IT READS IS OF BULK AT MOST 1048576: true; the input reads as it did. -/
def sizingFitsUptoRow : OpenClaim := { program := "ytjhpadklfeipaaa", sum := "01c47ef2e6c636a868bceb92e7dcd64c6def30ed14aebaef635e1a59ea6b68dd", func := "pentimento/pentimentolaw36.SizingFits", spec := "sizingFits", apart := false, narrowed := true }
def SizingFitsUptoSaid : Prop := sizingFitsUptoRow.holds Try.pinned (OpenSpec.upto sizingFitsSpec)

/-- 'pentimentolaw36.SizingTells', WHERE WHAT IT READS IS OF BULK AT MOST 1048576: true; the input reads as it did. -/
def sizingTellsUptoRow : OpenClaim := { program := "ytjhpadklfeipaaa", sum := "01c47ef2e6c636a868bceb92e7dcd64c6def30ed14aebaef635e1a59ea6b68dd", func := "pentimento/pentimentolaw36.SizingTells", spec := "sizingTells", apart := false, narrowed := true }
def SizingTellsUptoSaid : Prop := sizingTellsUptoRow.holds Try.pinned (OpenSpec.upto sizingTellsSpec)

end Rows
end Go.Proofs.Ytjhpadklfeipaaa
