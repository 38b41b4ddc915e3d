/-
  No cell of these rows narrows 'for every input' (looked for: loops, veiled, ifaces, maps, wideKeys, modest, calm, conditions, laid).
  DERIVED. THE GIVEN ROWS OF THIS SEAT. 12 by the template 'for every input the law returns true; each argument reads behind the call as it read before'; 0 by the template 'total and deterministic' (their statements: YtlokielmpdjedaaTotals.lean).
  GIVEN WITH THE SEED: the statements are not yours to turn. If you find one false, say at which input.
  Laid BY PROGRAM, IN A SANDBOX (cutbox-rows.mjs): the forced cells as the released guide's own fill.sh prints them over the translation ed38110a1862106a… (all of the seat's roots in one cut). By AI agents, Wed Nov 11 2026. No macro, syntax, notation, axiom, sorry.
-/
import Derived.Test.YtlokielmpdjedaaChecked
import GoSem.Claim
import GoSem.ClaimJoined
import GoSem.ClaimMapViews
import Derived.JoinedTies
import Derived.KernelRfl
namespace Go.Proofs.Ytlokielmpdjedaa
/- THE CELL 'sum', in the pinned program and in every row, IS THE sha256 OF THE DUMP (.gsa) THAT YtlokielmpdjedaaProg.lean LOADS. Nothing in Lean hashes anything: it is a label: what it is worth is what the hold of that sum in a sandbox is worth. -/
noncomputable def Try.pinned : Pinned := { name := "ytlokielmpdjedaa", sum := "ed38110a1862106a117080b74345247ef1b190aa2110a089d6465c7c11be1423", checked := Try.checked }
namespace Rows
def none {H : Type} : Left H := { results := [], args := [] }

/-- 'pentimentolaw44.ForecastTells': WHATEVER THE INPUT: true; the input reads as it did. -/
def forecastTellsSpec : ChangeSpec := { name := "forecastTells", fn := fun _ => fun
  | [d1, d2] => { results := [.lit (.bool true)], args := [d1, d2] }
  | _ => none }
def forecastTellsRow : OpenClaim := { program := "ytlokielmpdjedaa", sum := "ed38110a1862106a117080b74345247ef1b190aa2110a089d6465c7c11be1423", func := "pentimento/pentimentolaw44.ForecastTells", spec := "forecastTells", apart := false }
def ForecastTellsSaid : Prop := forecastTellsRow.holds Try.pinned (OpenSpec.ofChange forecastTellsSpec)

/-- ITS FALSE NEIGHBOUR: 'it returns false'. Refute it at one input. -/
def forecastTellsWrong : ChangeSpec := { name := "forecastTells", fn := fun _ => fun
  | [d1, d2] => { results := [.lit (.bool false)], args := [d1, d2] }
  | _ => none }
def ForecastTellsWrongFalsely : Prop := forecastTellsRow.holds Try.pinned (OpenSpec.ofChange forecastTellsWrong)

/-- 'pentimentolaw44.ForecastNeeds': WHATEVER THE INPUT: true; the input reads as it did. -/
def forecastNeedsSpec : ChangeSpec := { name := "forecastNeeds", fn := fun _ => fun
  | [d1, d2] => { results := [.lit (.bool true)], args := [d1, d2] }
  | _ => none }
def forecastNeedsRow : OpenClaim := { program := "ytlokielmpdjedaa", sum := "ed38110a1862106a117080b74345247ef1b190aa2110a089d6465c7c11be1423", func := "pentimento/pentimentolaw44.ForecastNeeds", spec := "forecastNeeds", apart := false }
def ForecastNeedsSaid : Prop := forecastNeedsRow.holds Try.pinned (OpenSpec.ofChange forecastNeedsSpec)

/-- ITS FALSE NEIGHBOUR: 'it returns false'. Refute it at one input. -/
def forecastNeedsWrong : ChangeSpec := { name := "forecastNeeds", fn := fun _ => fun
  | [d1, d2] => { results := [.lit (.bool false)], args := [d1, d2] }
  | _ => none }
def ForecastNeedsWrongFalsely : Prop := forecastNeedsRow.holds Try.pinned (OpenSpec.ofChange forecastNeedsWrong)

/-- 'pentimentolaw11.DirtyTurns': WHATEVER THE INPUT: true; the input reads as it did. -/
def dirtyTurnsSpec : ChangeSpec := { name := "dirtyTurns", fn := fun _ => fun
  | [d1, d2, d3] => { results := [.lit (.bool true)], args := [d1, d2, d3] }
  | _ => none }
def dirtyTurnsRow : OpenClaim := { program := "ytlokielmpdjedaa", sum := "ed38110a1862106a117080b74345247ef1b190aa2110a089d6465c7c11be1423", func := "pentimento/pentimentolaw11.DirtyTurns", spec := "dirtyTurns", apart := false }
def DirtyTurnsSaid : Prop := dirtyTurnsRow.holds Try.pinned (OpenSpec.ofChange dirtyTurnsSpec)

/-- ITS FALSE NEIGHBOUR: 'it returns false'. Refute it at one input. -/
def dirtyTurnsWrong : ChangeSpec := { name := "dirtyTurns", fn := fun _ => fun
  | [d1, d2, d3] => { results := [.lit (.bool false)], args := [d1, d2, d3] }
  | _ => none }
def DirtyTurnsWrongFalsely : Prop := dirtyTurnsRow.holds Try.pinned (OpenSpec.ofChange dirtyTurnsWrong)

/-- 'pentimentolaw36.SizingFits': WHATEVER THE INPUT: true; the input reads as it did. -/
def sizingFitsSpec : ChangeSpec := { name := "sizingFits", fn := fun _ => fun
  | [d1, d2, d3] => { results := [.lit (.bool true)], args := [d1, d2, d3] }
  | _ => none }
def sizingFitsRow : OpenClaim := { program := "ytlokielmpdjedaa", sum := "ed38110a1862106a117080b74345247ef1b190aa2110a089d6465c7c11be1423", func := "pentimento/pentimentolaw36.SizingFits", spec := "sizingFits", apart := false }
def SizingFitsSaid : Prop := sizingFitsRow.holds Try.pinned (OpenSpec.ofChange sizingFitsSpec)

/-- ITS FALSE NEIGHBOUR: 'it returns false'. Refute it at one input. -/
def sizingFitsWrong : ChangeSpec := { name := "sizingFits", fn := fun _ => fun
  | [d1, d2, d3] => { results := [.lit (.bool false)], args := [d1, d2, d3] }
  | _ => none }
def SizingFitsWrongFalsely : Prop := sizingFitsRow.holds Try.pinned (OpenSpec.ofChange sizingFitsWrong)

/-- 'pentimentolaw36.SizingTells': WHATEVER THE INPUT: true; the input reads as it did. -/
def sizingTellsSpec : ChangeSpec := { name := "sizingTells", fn := fun _ => fun
  | [d1, d2, d3] => { results := [.lit (.bool true)], args := [d1, d2, d3] }
  | _ => none }
def sizingTellsRow : OpenClaim := { program := "ytlokielmpdjedaa", sum := "ed38110a1862106a117080b74345247ef1b190aa2110a089d6465c7c11be1423", func := "pentimento/pentimentolaw36.SizingTells", spec := "sizingTells", apart := false }
def SizingTellsSaid : Prop := sizingTellsRow.holds Try.pinned (OpenSpec.ofChange sizingTellsSpec)

/-- ITS FALSE NEIGHBOUR: 'it returns false'. Refute it at one input. -/
def sizingTellsWrong : ChangeSpec := { name := "sizingTells", fn := fun _ => fun
  | [d1, d2, d3] => { results := [.lit (.bool false)], args := [d1, d2, d3] }
  | _ => none }
def SizingTellsWrongFalsely : Prop := sizingTellsRow.holds Try.pinned (OpenSpec.ofChange sizingTellsWrong)

/-- 'pentimentolaw07.GeomTells': WHATEVER THE INPUT: true; the input reads as it did. -/
def geomTellsSpec : ChangeSpec := { name := "geomTells", fn := fun _ => fun
  | [d1, d2] => { results := [.lit (.bool true)], args := [d1, d2] }
  | _ => none }
def geomTellsRow : OpenClaim := { program := "ytlokielmpdjedaa", sum := "ed38110a1862106a117080b74345247ef1b190aa2110a089d6465c7c11be1423", func := "pentimento/pentimentolaw07.GeomTells", spec := "geomTells", apart := false }
def GeomTellsSaid : Prop := geomTellsRow.holds Try.pinned (OpenSpec.ofChange geomTellsSpec)

/-- ITS FALSE NEIGHBOUR: 'it returns false'. Refute it at one input. -/
def geomTellsWrong : ChangeSpec := { name := "geomTells", fn := fun _ => fun
  | [d1, d2] => { results := [.lit (.bool false)], args := [d1, d2] }
  | _ => none }
def GeomTellsWrongFalsely : Prop := geomTellsRow.holds Try.pinned (OpenSpec.ofChange geomTellsWrong)

/-- 'pentimentolaw07.GeomFamily': WHATEVER THE INPUT: true; the input reads as it did. -/
def geomFamilySpec : ChangeSpec := { name := "geomFamily", fn := fun _ => fun
  | [d] => { results := [.lit (.bool true)], args := [d] }
  | _ => none }
def geomFamilyRow : OpenClaim := { program := "ytlokielmpdjedaa", sum := "ed38110a1862106a117080b74345247ef1b190aa2110a089d6465c7c11be1423", func := "pentimento/pentimentolaw07.GeomFamily", spec := "geomFamily", apart := false }
def GeomFamilySaid : Prop := geomFamilyRow.holds Try.pinned (OpenSpec.ofChange geomFamilySpec)

/-- ITS FALSE NEIGHBOUR: 'it returns false'. Refute it at one input. -/
def geomFamilyWrong : ChangeSpec := { name := "geomFamily", fn := fun _ => fun
  | [d] => { results := [.lit (.bool false)], args := [d] }
  | _ => none }
def GeomFamilyWrongFalsely : Prop := geomFamilyRow.holds Try.pinned (OpenSpec.ofChange geomFamilyWrong)

/-- 'pentimentolaw07.GeomPlaces': WHATEVER THE INPUT: true; the input reads as it did. -/
def geomPlacesSpec : ChangeSpec := { name := "geomPlaces", fn := fun _ => fun
  | [d1, d2, d3] => { results := [.lit (.bool true)], args := [d1, d2, d3] }
  | _ => none }
def geomPlacesRow : OpenClaim := { program := "ytlokielmpdjedaa", sum := "ed38110a1862106a117080b74345247ef1b190aa2110a089d6465c7c11be1423", func := "pentimento/pentimentolaw07.GeomPlaces", spec := "geomPlaces", apart := false }
def GeomPlacesSaid : Prop := geomPlacesRow.holds Try.pinned (OpenSpec.ofChange geomPlacesSpec)

/-- ITS FALSE NEIGHBOUR: 'it returns false'. Refute it at one input. -/
def geomPlacesWrong : ChangeSpec := { name := "geomPlaces", fn := fun _ => fun
  | [d1, d2, d3] => { results := [.lit (.bool false)], args := [d1, d2, d3] }
  | _ => none }
def GeomPlacesWrongFalsely : Prop := geomPlacesRow.holds Try.pinned (OpenSpec.ofChange geomPlacesWrong)

/-- 'pentimentolaw07.GeomApart': WHATEVER THE INPUT: true; the input reads as it did. -/
def geomApartSpec : ChangeSpec := { name := "geomApart", fn := fun _ => fun
  | [d1, d2] => { results := [.lit (.bool true)], args := [d1, d2] }
  | _ => none }
def geomApartRow : OpenClaim := { program := "ytlokielmpdjedaa", sum := "ed38110a1862106a117080b74345247ef1b190aa2110a089d6465c7c11be1423", func := "pentimento/pentimentolaw07.GeomApart", spec := "geomApart", apart := false }
def GeomApartSaid : Prop := geomApartRow.holds Try.pinned (OpenSpec.ofChange geomApartSpec)

/-- ITS FALSE NEIGHBOUR: 'it returns false'. Refute it at one input. -/
def geomApartWrong : ChangeSpec := { name := "geomApart", fn := fun _ => fun
  | [d1, d2] => { results := [.lit (.bool false)], args := [d1, d2] }
  | _ => none }
def GeomApartWrongFalsely : Prop := geomApartRow.holds Try.pinned (OpenSpec.ofChange geomApartWrong)

/-- 'pentimentolaw03.ShaSums': WHATEVER THE INPUT: true; the input reads as it did. -/
def shaSumsSpec : ChangeSpec := { name := "shaSums", fn := fun _ => fun
  | [d] => { results := [.lit (.bool true)], args := [d] }
  | _ => none }
def shaSumsRow : OpenClaim := { program := "ytlokielmpdjedaa", sum := "ed38110a1862106a117080b74345247ef1b190aa2110a089d6465c7c11be1423", func := "pentimento/pentimentolaw03.ShaSums", spec := "shaSums", apart := false }
def ShaSumsSaid : Prop := shaSumsRow.holds Try.pinned (OpenSpec.ofChange shaSumsSpec)

/-- ITS FALSE NEIGHBOUR: 'it returns false'. Refute it at one input. -/
def shaSumsWrong : ChangeSpec := { name := "shaSums", fn := fun _ => fun
  | [d] => { results := [.lit (.bool false)], args := [d] }
  | _ => none }
def ShaSumsWrongFalsely : Prop := shaSumsRow.holds Try.pinned (OpenSpec.ofChange shaSumsWrong)

/-- 'pentimentolaw03.ShaParts': WHATEVER THE INPUT: true; the input reads as it did. -/
def shaPartsSpec : ChangeSpec := { name := "shaParts", fn := fun _ => fun
  | [d] => { results := [.lit (.bool true)], args := [d] }
  | _ => none }
def shaPartsRow : OpenClaim := { program := "ytlokielmpdjedaa", sum := "ed38110a1862106a117080b74345247ef1b190aa2110a089d6465c7c11be1423", func := "pentimento/pentimentolaw03.ShaParts", spec := "shaParts", apart := false }
def ShaPartsSaid : Prop := shaPartsRow.holds Try.pinned (OpenSpec.ofChange shaPartsSpec)

/-- ITS FALSE NEIGHBOUR: 'it returns false'. Refute it at one input. -/
def shaPartsWrong : ChangeSpec := { name := "shaParts", fn := fun _ => fun
  | [d] => { results := [.lit (.bool false)], args := [d] }
  | _ => none }
def ShaPartsWrongFalsely : Prop := shaPartsRow.holds Try.pinned (OpenSpec.ofChange shaPartsWrong)

/-- 'pentimentolaw03.ShaNil': WHATEVER THE INPUT: true; the input reads as it did. -/
def shaNilSpec : ChangeSpec := { name := "shaNil", fn := fun _ => fun
  | [d] => { results := [.lit (.bool true)], args := [d] }
  | _ => none }
def shaNilRow : OpenClaim := { program := "ytlokielmpdjedaa", sum := "ed38110a1862106a117080b74345247ef1b190aa2110a089d6465c7c11be1423", func := "pentimento/pentimentolaw03.ShaNil", spec := "shaNil", apart := false }
def ShaNilSaid : Prop := shaNilRow.holds Try.pinned (OpenSpec.ofChange shaNilSpec)

/-- ITS FALSE NEIGHBOUR: 'it returns false'. Refute it at one input. -/
def shaNilWrong : ChangeSpec := { name := "shaNil", fn := fun _ => fun
  | [d] => { results := [.lit (.bool false)], args := [d] }
  | _ => none }
def ShaNilWrongFalsely : Prop := shaNilRow.holds Try.pinned (OpenSpec.ofChange shaNilWrong)

/- THE SECOND FORM. 'bulk': how many values and letters a reading holds, each counted each time it is reached (what is shared counts as often as it is met; a slice's spare places count too). A statement '..UptoSaid' is the law's where the arguments, and the package variables that the reading takes, are together of bulk at most 1048576: NARROWER than '..Said'. Prove '..Said' where nothing that the law and all that it calls make is longer than what came in: it says more and counts as full. Else prove '..UptoSaid'. A law counts once. -/
mutual
def uptoBulk {H : Type} : DataW H → Nat
  | .lit (.string bytes) => bytes.length + 1
  | .lit _ => 1
  | .nil => 1
  | .ptr d => uptoBulk d + 1
  | .slice elems spare => uptoBulkAll elems + uptoBulkAll spare + 1
  | .agg parts => uptoBulkAll parts + 1
  | .iface _ d => uptoBulk d + 1
  | .map entries => uptoBulkEntries entries + 1
  | .held _ => 1
def uptoBulkAll {H : Type} : List (DataW H) → Nat
  | [] => 0
  | d :: r => uptoBulk d + uptoBulkAll r
def uptoBulkEntries {H : Type} : List (Lit × DataW H) → Nat
  | [] => 0
  | x :: r => uptoBulkEntry x + uptoBulkEntries r
def uptoBulkEntry {H : Type} : Lit × DataW H → Nat
  | (.string bytes, d) => bytes.length + uptoBulk d + 1
  | (_, d) => uptoBulk d + 1
 end
def uptoSmall : (H : Type) → List (DataW H) → Bool := fun _ ds => decide (uptoBulkAll ds ≤ 1048576)
def OpenSpec.upto (s : _root_.Go.ChangeSpec) : _root_.Go.OpenSpec := { _root_.Go.OpenSpec.ofChange s with cond := some uptoSmall }

/-- 'pentimentolaw44.ForecastTells', WHERE WHAT IT READS IS OF BULK AT MOST 1048576: true; the input reads as it did. -/
def forecastTellsUptoRow : OpenClaim := { program := "ytlokielmpdjedaa", sum := "ed38110a1862106a117080b74345247ef1b190aa2110a089d6465c7c11be1423", func := "pentimento/pentimentolaw44.ForecastTells", spec := "forecastTells", apart := false, narrowed := true }
def ForecastTellsUptoSaid : Prop := forecastTellsUptoRow.holds Try.pinned (OpenSpec.upto forecastTellsSpec)

/-- 'pentimentolaw44.ForecastNeeds', WHERE WHAT IT READS IS OF BULK AT MOST 1048576: true; the input reads as it did. -/
def forecastNeedsUptoRow : OpenClaim := { program := "ytlokielmpdjedaa", sum := "ed38110a1862106a117080b74345247ef1b190aa2110a089d6465c7c11be1423", func := "pentimento/pentimentolaw44.ForecastNeeds", spec := "forecastNeeds", apart := false, narrowed := true }
def ForecastNeedsUptoSaid : Prop := forecastNeedsUptoRow.holds Try.pinned (OpenSpec.upto forecastNeedsSpec)

/-- 'pentimentolaw11.DirtyTurns', WHERE WHAT IT READS IS OF BULK AT MOST 1048576: true; the input reads as it did. -/
def dirtyTurnsUptoRow : OpenClaim := { program := "ytlokielmpdjedaa", sum := "ed38110a1862106a117080b74345247ef1b190aa2110a089d6465c7c11be1423", func := "pentimento/pentimentolaw11.DirtyTurns", spec := "dirtyTurns", apart := false, narrowed := true }
def DirtyTurnsUptoSaid : Prop := dirtyTurnsUptoRow.holds Try.pinned (OpenSpec.upto dirtyTurnsSpec)

/-- 'pentimentolaw36.SizingFits', WHERE WHAT IT READS IS OF BULK AT MOST 1048576: true; the input reads as it did. -/
def sizingFitsUptoRow : OpenClaim := { program := "ytlokielmpdjedaa", sum := "ed38110a1862106a117080b74345247ef1b190aa2110a089d6465c7c11be1423", func := "pentimento/pentimentolaw36.SizingFits", spec := "sizingFits", apart := false, narrowed := true }
def SizingFitsUptoSaid : Prop := sizingFitsUptoRow.holds Try.pinned (OpenSpec.upto sizingFitsSpec)

/-- 'pentimentolaw36.SizingTells', WHERE WHAT IT READS IS OF BULK AT MOST 1048576: true; the input reads as it did. -/
def sizingTellsUptoRow : OpenClaim := { program := "ytlokielmpdjedaa", sum := "ed38110a1862106a117080b74345247ef1b190aa2110a089d6465c7c11be1423", func := "pentimento/pentimentolaw36.SizingTells", spec := "sizingTells", apart := false, narrowed := true }
def SizingTellsUptoSaid : Prop := sizingTellsUptoRow.holds Try.pinned (OpenSpec.upto sizingTellsSpec)

/-- 'pentimentolaw07.GeomTells', WHERE WHAT IT READS IS OF BULK AT MOST 1048576: true; the input reads as it did. -/
def geomTellsUptoRow : OpenClaim := { program := "ytlokielmpdjedaa", sum := "ed38110a1862106a117080b74345247ef1b190aa2110a089d6465c7c11be1423", func := "pentimento/pentimentolaw07.GeomTells", spec := "geomTells", apart := false, narrowed := true }
def GeomTellsUptoSaid : Prop := geomTellsUptoRow.holds Try.pinned (OpenSpec.upto geomTellsSpec)

/-- 'pentimentolaw07.GeomFamily', WHERE WHAT IT READS IS OF BULK AT MOST 1048576: true; the input reads as it did. -/
def geomFamilyUptoRow : OpenClaim := { program := "ytlokielmpdjedaa", sum := "ed38110a1862106a117080b74345247ef1b190aa2110a089d6465c7c11be1423", func := "pentimento/pentimentolaw07.GeomFamily", spec := "geomFamily", apart := false, narrowed := true }
def GeomFamilyUptoSaid : Prop := geomFamilyUptoRow.holds Try.pinned (OpenSpec.upto geomFamilySpec)

/-- 'pentimentolaw07.GeomPlaces', WHERE WHAT IT READS IS OF BULK AT MOST 1048576: true; the input reads as it did. -/
def geomPlacesUptoRow : OpenClaim := { program := "ytlokielmpdjedaa", sum := "ed38110a1862106a117080b74345247ef1b190aa2110a089d6465c7c11be1423", func := "pentimento/pentimentolaw07.GeomPlaces", spec := "geomPlaces", apart := false, narrowed := true }
def GeomPlacesUptoSaid : Prop := geomPlacesUptoRow.holds Try.pinned (OpenSpec.upto geomPlacesSpec)

/-- 'pentimentolaw07.GeomApart', WHERE WHAT IT READS IS OF BULK AT MOST 1048576: true; the input reads as it did. -/
def geomApartUptoRow : OpenClaim := { program := "ytlokielmpdjedaa", sum := "ed38110a1862106a117080b74345247ef1b190aa2110a089d6465c7c11be1423", func := "pentimento/pentimentolaw07.GeomApart", spec := "geomApart", apart := false, narrowed := true }
def GeomApartUptoSaid : Prop := geomApartUptoRow.holds Try.pinned (OpenSpec.upto geomApartSpec)

/-- 'pentimentolaw03.ShaSums', WHERE WHAT IT READS IS OF BULK AT MOST 1048576: true; the input reads as it did. -/
def shaSumsUptoRow : OpenClaim := { program := "ytlokielmpdjedaa", sum := "ed38110a1862106a117080b74345247ef1b190aa2110a089d6465c7c11be1423", func := "pentimento/pentimentolaw03.ShaSums", spec := "shaSums", apart := false, narrowed := true }
def ShaSumsUptoSaid : Prop := shaSumsUptoRow.holds Try.pinned (OpenSpec.upto shaSumsSpec)

/-- 'pentimentolaw03.ShaParts', WHERE WHAT IT READS IS OF BULK AT MOST 1048576: true; the input reads as it did. -/
def shaPartsUptoRow : OpenClaim := { program := "ytlokielmpdjedaa", sum := "ed38110a1862106a117080b74345247ef1b190aa2110a089d6465c7c11be1423", func := "pentimento/pentimentolaw03.ShaParts", spec := "shaParts", apart := false, narrowed := true }
def ShaPartsUptoSaid : Prop := shaPartsUptoRow.holds Try.pinned (OpenSpec.upto shaPartsSpec)

/-- 'pentimentolaw03.ShaNil', WHERE WHAT IT READS IS OF BULK AT MOST 1048576: true; the input reads as it did. -/
def shaNilUptoRow : OpenClaim := { program := "ytlokielmpdjedaa", sum := "ed38110a1862106a117080b74345247ef1b190aa2110a089d6465c7c11be1423", func := "pentimento/pentimentolaw03.ShaNil", spec := "shaNil", apart := false, narrowed := true }
def ShaNilUptoSaid : Prop := shaNilUptoRow.holds Try.pinned (OpenSpec.upto shaNilSpec)

end Rows
end Go.Proofs.Ytlokielmpdjedaa
