/-
  NARROWER THAN 'FOR EVERY INPUT', by the rows' own cells (each row's printed sentence says how): SlideGrids: laid · SlideSizes: laid · SlideGreat: laid · SlideSolves: laid · SlideApplies: laid · SlideBack: laid · SlideBoards: laid · SlideWilson: laid · SlideChecks: laid.
  DERIVED. THE GIVEN ROWS OF THIS SEAT. 9 by the template 'for every input the law returns true; each argument reads behind the call as it read before'; 0 by the template 'total and deterministic' (their statements: YtjcmalmcijpnnaaDoorTotals.lean).
  GIVEN WITH THE SEED: the statements are not yours to turn. If you find one false, say at which input.
  Laid BY PROGRAM, IN A SANDBOX (cutbox-rows.mjs): the forced cells as the released guide's own fill.sh prints them over the translation 270bdfada5332545… (all of the seat's roots in one cut). By AI agents, Wed Nov 11 2026. No macro, syntax, notation, axiom, sorry.
-/
import Derived.Test.YtjcmalmcijpnnaaDoorChecked
import GoSem.Claim
import GoSem.ClaimJoined
import GoSem.ClaimMapViews
import Derived.JoinedTies
import Derived.KernelRfl
namespace Go.Proofs.YtjcmalmcijpnnaaDoor
/- THE CELL 'sum', in the pinned program and in every row, IS THE sha256 OF THE DUMP (.gsa) THAT YtjcmalmcijpnnaaDoorProg.lean LOADS. Nothing in Lean hashes anything: it is a label: what it is worth is what the hold of that sum in a sandbox is worth. -/
noncomputable def Tryd.pinned : Pinned := { name := "ytjcmalmcijpnnaadoor", sum := "270bdfada533254526b464afe8faf7062b1067dbe9a6343ef06d2cfc98c496c0", checked := Tryd.checked }
namespace Rows
def none {H : Type} : Left H := { results := [], args := [] }

/- WHAT THE LISTED PACKAGE-LEVEL VARIABLES READ AS WHEN THE CALL BEGINS. Each datum BY PROGRAM (the guide's laid-datum.mjs) off the statement by which the dump's own 'gosem.cut.vars' lays the variable. In a bare row this is a premise. The card (YtjcmalmcijpnnaaDoorCards.lean) ties it to the program's text. -/
def laid_math_bits_deBruijn32tab {H : Type} : DataW H := .agg [.lit (.int .u8 0), .lit (.int .u8 1), .lit (.int .u8 28), .lit (.int .u8 2), .lit (.int .u8 29), .lit (.int .u8 14), .lit (.int .u8 24), .lit (.int .u8 3), .lit (.int .u8 30), .lit (.int .u8 22), .lit (.int .u8 20), .lit (.int .u8 15), .lit (.int .u8 25), .lit (.int .u8 17), .lit (.int .u8 4), .lit (.int .u8 8), .lit (.int .u8 31), .lit (.int .u8 27), .lit (.int .u8 13), .lit (.int .u8 23), .lit (.int .u8 21), .lit (.int .u8 19), .lit (.int .u8 16), .lit (.int .u8 7), .lit (.int .u8 26), .lit (.int .u8 12), .lit (.int .u8 18), .lit (.int .u8 6), .lit (.int .u8 11), .lit (.int .u8 5), .lit (.int .u8 10), .lit (.int .u8 9)]
def laid_math_bits_deBruijn64tab {H : Type} : DataW H := .agg [.lit (.int .u8 0), .lit (.int .u8 1), .lit (.int .u8 56), .lit (.int .u8 2), .lit (.int .u8 57), .lit (.int .u8 49), .lit (.int .u8 28), .lit (.int .u8 3), .lit (.int .u8 61), .lit (.int .u8 58), .lit (.int .u8 42), .lit (.int .u8 50), .lit (.int .u8 38), .lit (.int .u8 29), .lit (.int .u8 17), .lit (.int .u8 4), .lit (.int .u8 62), .lit (.int .u8 47), .lit (.int .u8 59), .lit (.int .u8 36), .lit (.int .u8 45), .lit (.int .u8 43), .lit (.int .u8 51), .lit (.int .u8 22), .lit (.int .u8 53), .lit (.int .u8 39), .lit (.int .u8 33), .lit (.int .u8 30), .lit (.int .u8 24), .lit (.int .u8 18), .lit (.int .u8 12), .lit (.int .u8 5), .lit (.int .u8 63), .lit (.int .u8 55), .lit (.int .u8 48), .lit (.int .u8 27), .lit (.int .u8 60), .lit (.int .u8 41), .lit (.int .u8 37), .lit (.int .u8 16), .lit (.int .u8 46), .lit (.int .u8 35), .lit (.int .u8 44), .lit (.int .u8 21), .lit (.int .u8 52), .lit (.int .u8 32), .lit (.int .u8 23), .lit (.int .u8 11), .lit (.int .u8 54), .lit (.int .u8 26), .lit (.int .u8 40), .lit (.int .u8 15), .lit (.int .u8 34), .lit (.int .u8 20), .lit (.int .u8 31), .lit (.int .u8 10), .lit (.int .u8 25), .lit (.int .u8 14), .lit (.int .u8 19), .lit (.int .u8 9), .lit (.int .u8 13), .lit (.int .u8 8), .lit (.int .u8 7), .lit (.int .u8 6)]

/-- 'squeegeelaw10.SlideGrids': WHATEVER THE INPUT: true; the input reads as it did. -/
def slideGridsSpec : ChangeSpec := { name := "slideGrids", fn := fun _ => fun
  | [d1, d2] => { results := [.lit (.bool true)], args := [d1, d2] }
  | _ => none }
def slideGridsRow : OpenClaim := { program := "ytjcmalmcijpnnaadoor", sum := "270bdfada533254526b464afe8faf7062b1067dbe9a6343ef06d2cfc98c496c0", func := "squeegee/squeegeelaw10.SlideGrids", spec := "slideGrids", unfollowed := true, recurses := true, named := ["math/bits.deBruijn32tab", "math/bits.deBruijn64tab"], plainKeys := false, apart := false, laid := [("math/bits.deBruijn32tab", laid_math_bits_deBruijn32tab), ("math/bits.deBruijn64tab", laid_math_bits_deBruijn64tab)] }
def SlideGridsSaid : Prop := slideGridsRow.holds Tryd.pinned (OpenSpec.ofChange slideGridsSpec)

/-- ITS FALSE NEIGHBOUR: 'it returns false'. Refute it at one input. -/
def slideGridsWrong : ChangeSpec := { name := "slideGrids", fn := fun _ => fun
  | [d1, d2] => { results := [.lit (.bool false)], args := [d1, d2] }
  | _ => none }
def SlideGridsWrongFalsely : Prop := slideGridsRow.holds Tryd.pinned (OpenSpec.ofChange slideGridsWrong)

/-- 'squeegeelaw10.SlideSizes': WHATEVER THE INPUT: true; the input reads as it did. -/
def slideSizesSpec : ChangeSpec := { name := "slideSizes", fn := fun _ => fun
  | [d1, d2] => { results := [.lit (.bool true)], args := [d1, d2] }
  | _ => none }
def slideSizesRow : OpenClaim := { program := "ytjcmalmcijpnnaadoor", sum := "270bdfada533254526b464afe8faf7062b1067dbe9a6343ef06d2cfc98c496c0", func := "squeegee/squeegeelaw10.SlideSizes", spec := "slideSizes", unfollowed := true, recurses := true, named := ["math/bits.deBruijn32tab", "math/bits.deBruijn64tab"], plainKeys := false, apart := false, laid := [("math/bits.deBruijn32tab", laid_math_bits_deBruijn32tab), ("math/bits.deBruijn64tab", laid_math_bits_deBruijn64tab)] }
def SlideSizesSaid : Prop := slideSizesRow.holds Tryd.pinned (OpenSpec.ofChange slideSizesSpec)

/-- ITS FALSE NEIGHBOUR: 'it returns false'. Refute it at one input. -/
def slideSizesWrong : ChangeSpec := { name := "slideSizes", fn := fun _ => fun
  | [d1, d2] => { results := [.lit (.bool false)], args := [d1, d2] }
  | _ => none }
def SlideSizesWrongFalsely : Prop := slideSizesRow.holds Tryd.pinned (OpenSpec.ofChange slideSizesWrong)

/-- 'squeegeelaw10.SlideGreat': WHATEVER THE INPUT: true; the input reads as it did. -/
def slideGreatSpec : ChangeSpec := { name := "slideGreat", fn := fun _ => fun
  | [d] => { results := [.lit (.bool true)], args := [d] }
  | _ => none }
def slideGreatRow : OpenClaim := { program := "ytjcmalmcijpnnaadoor", sum := "270bdfada533254526b464afe8faf7062b1067dbe9a6343ef06d2cfc98c496c0", func := "squeegee/squeegeelaw10.SlideGreat", spec := "slideGreat", unfollowed := true, recurses := true, named := ["math/bits.deBruijn32tab", "math/bits.deBruijn64tab"], plainKeys := false, apart := false, laid := [("math/bits.deBruijn32tab", laid_math_bits_deBruijn32tab), ("math/bits.deBruijn64tab", laid_math_bits_deBruijn64tab)] }
def SlideGreatSaid : Prop := slideGreatRow.holds Tryd.pinned (OpenSpec.ofChange slideGreatSpec)

/-- ITS FALSE NEIGHBOUR: 'it returns false'. Refute it at one input. -/
def slideGreatWrong : ChangeSpec := { name := "slideGreat", fn := fun _ => fun
  | [d] => { results := [.lit (.bool false)], args := [d] }
  | _ => none }
def SlideGreatWrongFalsely : Prop := slideGreatRow.holds Tryd.pinned (OpenSpec.ofChange slideGreatWrong)

/-- 'squeegeelaw10.SlideSolves': WHATEVER THE INPUT: true; the input reads as it did. -/
def slideSolvesSpec : ChangeSpec := { name := "slideSolves", fn := fun _ => fun
  | [d1, d2, d3] => { results := [.lit (.bool true)], args := [d1, d2, d3] }
  | _ => none }
def slideSolvesRow : OpenClaim := { program := "ytjcmalmcijpnnaadoor", sum := "270bdfada533254526b464afe8faf7062b1067dbe9a6343ef06d2cfc98c496c0", func := "squeegee/squeegeelaw10.SlideSolves", spec := "slideSolves", unfollowed := true, recurses := true, named := ["math/bits.deBruijn32tab", "math/bits.deBruijn64tab"], plainKeys := false, apart := false, laid := [("math/bits.deBruijn32tab", laid_math_bits_deBruijn32tab), ("math/bits.deBruijn64tab", laid_math_bits_deBruijn64tab)] }
def SlideSolvesSaid : Prop := slideSolvesRow.holds Tryd.pinned (OpenSpec.ofChange slideSolvesSpec)

/-- ITS FALSE NEIGHBOUR: 'it returns false'. Refute it at one input. -/
def slideSolvesWrong : ChangeSpec := { name := "slideSolves", fn := fun _ => fun
  | [d1, d2, d3] => { results := [.lit (.bool false)], args := [d1, d2, d3] }
  | _ => none }
def SlideSolvesWrongFalsely : Prop := slideSolvesRow.holds Tryd.pinned (OpenSpec.ofChange slideSolvesWrong)

/-- 'squeegeelaw10.SlideApplies': WHATEVER THE INPUT: true; the input reads as it did. -/
def slideAppliesSpec : ChangeSpec := { name := "slideApplies", fn := fun _ => fun
  | [d1, d2, d3] => { results := [.lit (.bool true)], args := [d1, d2, d3] }
  | _ => none }
def slideAppliesRow : OpenClaim := { program := "ytjcmalmcijpnnaadoor", sum := "270bdfada533254526b464afe8faf7062b1067dbe9a6343ef06d2cfc98c496c0", func := "squeegee/squeegeelaw10.SlideApplies", spec := "slideApplies", unfollowed := true, recurses := true, named := ["math/bits.deBruijn32tab", "math/bits.deBruijn64tab"], plainKeys := false, apart := false, laid := [("math/bits.deBruijn32tab", laid_math_bits_deBruijn32tab), ("math/bits.deBruijn64tab", laid_math_bits_deBruijn64tab)] }
def SlideAppliesSaid : Prop := slideAppliesRow.holds Tryd.pinned (OpenSpec.ofChange slideAppliesSpec)

/-- ITS FALSE NEIGHBOUR: 'it returns false'. Refute it at one input. -/
def slideAppliesWrong : ChangeSpec := { name := "slideApplies", fn := fun _ => fun
  | [d1, d2, d3] => { results := [.lit (.bool false)], args := [d1, d2, d3] }
  | _ => none }
def SlideAppliesWrongFalsely : Prop := slideAppliesRow.holds Tryd.pinned (OpenSpec.ofChange slideAppliesWrong)

/-- 'squeegeelaw10.SlideBack': WHATEVER THE INPUT: true; the input reads as it did. -/
def slideBackSpec : ChangeSpec := { name := "slideBack", fn := fun _ => fun
  | [d1, d2, d3] => { results := [.lit (.bool true)], args := [d1, d2, d3] }
  | _ => none }
def slideBackRow : OpenClaim := { program := "ytjcmalmcijpnnaadoor", sum := "270bdfada533254526b464afe8faf7062b1067dbe9a6343ef06d2cfc98c496c0", func := "squeegee/squeegeelaw10.SlideBack", spec := "slideBack", unfollowed := true, recurses := true, named := ["math/bits.deBruijn32tab", "math/bits.deBruijn64tab"], plainKeys := false, apart := false, laid := [("math/bits.deBruijn32tab", laid_math_bits_deBruijn32tab), ("math/bits.deBruijn64tab", laid_math_bits_deBruijn64tab)] }
def SlideBackSaid : Prop := slideBackRow.holds Tryd.pinned (OpenSpec.ofChange slideBackSpec)

/-- ITS FALSE NEIGHBOUR: 'it returns false'. Refute it at one input. -/
def slideBackWrong : ChangeSpec := { name := "slideBack", fn := fun _ => fun
  | [d1, d2, d3] => { results := [.lit (.bool false)], args := [d1, d2, d3] }
  | _ => none }
def SlideBackWrongFalsely : Prop := slideBackRow.holds Tryd.pinned (OpenSpec.ofChange slideBackWrong)

/-- 'squeegeelaw10.SlideBoards': WHATEVER THE INPUT: true; the input reads as it did. -/
def slideBoardsSpec : ChangeSpec := { name := "slideBoards", fn := fun _ => fun
  | [d1, d2, d3] => { results := [.lit (.bool true)], args := [d1, d2, d3] }
  | _ => none }
def slideBoardsRow : OpenClaim := { program := "ytjcmalmcijpnnaadoor", sum := "270bdfada533254526b464afe8faf7062b1067dbe9a6343ef06d2cfc98c496c0", func := "squeegee/squeegeelaw10.SlideBoards", spec := "slideBoards", unfollowed := true, recurses := true, named := ["math/bits.deBruijn32tab", "math/bits.deBruijn64tab"], plainKeys := false, apart := false, laid := [("math/bits.deBruijn32tab", laid_math_bits_deBruijn32tab), ("math/bits.deBruijn64tab", laid_math_bits_deBruijn64tab)] }
def SlideBoardsSaid : Prop := slideBoardsRow.holds Tryd.pinned (OpenSpec.ofChange slideBoardsSpec)

/-- ITS FALSE NEIGHBOUR: 'it returns false'. Refute it at one input. -/
def slideBoardsWrong : ChangeSpec := { name := "slideBoards", fn := fun _ => fun
  | [d1, d2, d3] => { results := [.lit (.bool false)], args := [d1, d2, d3] }
  | _ => none }
def SlideBoardsWrongFalsely : Prop := slideBoardsRow.holds Tryd.pinned (OpenSpec.ofChange slideBoardsWrong)

/-- 'squeegeelaw10.SlideWilson': WHATEVER THE INPUT: true; the input reads as it did. -/
def slideWilsonSpec : ChangeSpec := { name := "slideWilson", fn := fun _ => fun
  | [d1, d2, d3] => { results := [.lit (.bool true)], args := [d1, d2, d3] }
  | _ => none }
def slideWilsonRow : OpenClaim := { program := "ytjcmalmcijpnnaadoor", sum := "270bdfada533254526b464afe8faf7062b1067dbe9a6343ef06d2cfc98c496c0", func := "squeegee/squeegeelaw10.SlideWilson", spec := "slideWilson", unfollowed := true, recurses := true, named := ["math/bits.deBruijn32tab", "math/bits.deBruijn64tab"], plainKeys := false, apart := false, laid := [("math/bits.deBruijn32tab", laid_math_bits_deBruijn32tab), ("math/bits.deBruijn64tab", laid_math_bits_deBruijn64tab)] }
def SlideWilsonSaid : Prop := slideWilsonRow.holds Tryd.pinned (OpenSpec.ofChange slideWilsonSpec)

/-- ITS FALSE NEIGHBOUR: 'it returns false'. Refute it at one input. -/
def slideWilsonWrong : ChangeSpec := { name := "slideWilson", fn := fun _ => fun
  | [d1, d2, d3] => { results := [.lit (.bool false)], args := [d1, d2, d3] }
  | _ => none }
def SlideWilsonWrongFalsely : Prop := slideWilsonRow.holds Tryd.pinned (OpenSpec.ofChange slideWilsonWrong)

/-- 'squeegeelaw10.SlideChecks': WHATEVER THE INPUT: true; the input reads as it did. -/
def slideChecksSpec : ChangeSpec := { name := "slideChecks", fn := fun _ => fun
  | [d1, d2, d3] => { results := [.lit (.bool true)], args := [d1, d2, d3] }
  | _ => none }
def slideChecksRow : OpenClaim := { program := "ytjcmalmcijpnnaadoor", sum := "270bdfada533254526b464afe8faf7062b1067dbe9a6343ef06d2cfc98c496c0", func := "squeegee/squeegeelaw10.SlideChecks", spec := "slideChecks", unfollowed := true, recurses := true, named := ["math/bits.deBruijn32tab", "math/bits.deBruijn64tab"], plainKeys := false, apart := false, laid := [("math/bits.deBruijn32tab", laid_math_bits_deBruijn32tab), ("math/bits.deBruijn64tab", laid_math_bits_deBruijn64tab)] }
def SlideChecksSaid : Prop := slideChecksRow.holds Tryd.pinned (OpenSpec.ofChange slideChecksSpec)

/-- ITS FALSE NEIGHBOUR: 'it returns false'. Refute it at one input. -/
def slideChecksWrong : ChangeSpec := { name := "slideChecks", fn := fun _ => fun
  | [d1, d2, d3] => { results := [.lit (.bool false)], args := [d1, d2, d3] }
  | _ => none }
def SlideChecksWrongFalsely : Prop := slideChecksRow.holds Tryd.pinned (OpenSpec.ofChange slideChecksWrong)

/- THE SECOND FORM. 'bulk': how many values and letters a reading holds, each counted each time it is reached (what is shared counts as often as it is met; a slice's spare places count too). A statement '..UptoSaid' is the law's where the arguments, and the package variables that the reading takes, are together of bulk at most 1048576: NARROWER than '..Said'. Prove '..Said' where nothing that the law and all that it calls make is longer than what came in: it says more and counts as full. Else prove '..UptoSaid'. A law counts once. -/
mutual
def uptoBulk {H : Type} : DataW H → Nat
  | .lit (.string bytes) => bytes.length + 1
  | .lit _ => 1
  | .nil => 1
  | .ptr d => uptoBulk d + 1
  | .slice elems spare => uptoBulkAll elems + uptoBulkAll spare + 1
  | .agg parts => uptoBulkAll parts + 1
  | .iface _ d => uptoBulk d + 1
  | .map entries => uptoBulkEntries entries + 1
  | .held _ => 1
def uptoBulkAll {H : Type} : List (DataW H) → Nat
  | [] => 0
  | d :: r => uptoBulk d + uptoBulkAll r
def uptoBulkEntries {H : Type} : List (Lit × DataW H) → Nat
  | [] => 0
  | x :: r => uptoBulkEntry x + uptoBulkEntries r
def uptoBulkEntry {H : Type} : Lit × DataW H → Nat
  | (.string bytes, d) => bytes.length + uptoBulk d + 1
  | (_, d) => uptoBulk d + 1
 end
def uptoSmall : (H : Type) → List (DataW H) → Bool := fun _ ds => decide (uptoBulkAll ds ≤ 1048576)
def OpenSpec.upto (s : _root_.Go.ChangeSpec) : _root_.Go.OpenSpec := { _root_.Go.OpenSpec.ofChange s with cond := some uptoSmall }

/-- 'squeegeelaw10.SlideGrids', WHERE WHAT IT READS IS OF BULK AT MOST 1048576: true; the input reads as it did. -/
def slideGridsUptoRow : OpenClaim := { program := "ytjcmalmcijpnnaadoor", sum := "270bdfada533254526b464afe8faf7062b1067dbe9a6343ef06d2cfc98c496c0", func := "squeegee/squeegeelaw10.SlideGrids", spec := "slideGrids", unfollowed := true, recurses := true, named := ["math/bits.deBruijn32tab", "math/bits.deBruijn64tab"], plainKeys := false, apart := false, laid := [("math/bits.deBruijn32tab", laid_math_bits_deBruijn32tab), ("math/bits.deBruijn64tab", laid_math_bits_deBruijn64tab)], narrowed := true }
def SlideGridsUptoSaid : Prop := slideGridsUptoRow.holds Tryd.pinned (OpenSpec.upto slideGridsSpec)

/-- 'squeegeelaw10.SlideSizes', WHERE WHAT IT READS IS OF BULK AT MOST 1048576: true; the input reads as it did. -/
def slideSizesUptoRow : OpenClaim := { program := "ytjcmalmcijpnnaadoor", sum := "270bdfada533254526b464afe8faf7062b1067dbe9a6343ef06d2cfc98c496c0", func := "squeegee/squeegeelaw10.SlideSizes", spec := "slideSizes", unfollowed := true, recurses := true, named := ["math/bits.deBruijn32tab", "math/bits.deBruijn64tab"], plainKeys := false, apart := false, laid := [("math/bits.deBruijn32tab", laid_math_bits_deBruijn32tab), ("math/bits.deBruijn64tab", laid_math_bits_deBruijn64tab)], narrowed := true }
def SlideSizesUptoSaid : Prop := slideSizesUptoRow.holds Tryd.pinned (OpenSpec.upto slideSizesSpec)

/-- 'squeegeelaw10.SlideGreat', WHERE WHAT IT READS IS OF BULK AT MOST 1048576: true; the input reads as it did. -/
def slideGreatUptoRow : OpenClaim := { program := "ytjcmalmcijpnnaadoor", sum := "270bdfada533254526b464afe8faf7062b1067dbe9a6343ef06d2cfc98c496c0", func := "squeegee/squeegeelaw10.SlideGreat", spec := "slideGreat", unfollowed := true, recurses := true, named := ["math/bits.deBruijn32tab", "math/bits.deBruijn64tab"], plainKeys := false, apart := false, laid := [("math/bits.deBruijn32tab", laid_math_bits_deBruijn32tab), ("math/bits.deBruijn64tab", laid_math_bits_deBruijn64tab)], narrowed := true }
def SlideGreatUptoSaid : Prop := slideGreatUptoRow.holds Tryd.pinned (OpenSpec.upto slideGreatSpec)

/-- 'squeegeelaw10.SlideSolves', WHERE WHAT IT READS IS OF BULK AT MOST 1048576: true; the input reads as it did. -/
def slideSolvesUptoRow : OpenClaim := { program := "ytjcmalmcijpnnaadoor", sum := "270bdfada533254526b464afe8faf7062b1067dbe9a6343ef06d2cfc98c496c0", func := "squeegee/squeegeelaw10.SlideSolves", spec := "slideSolves", unfollowed := true, recurses := true, named := ["math/bits.deBruijn32tab", "math/bits.deBruijn64tab"], plainKeys := false, apart := false, laid := [("math/bits.deBruijn32tab", laid_math_bits_deBruijn32tab), ("math/bits.deBruijn64tab", laid_math_bits_deBruijn64tab)], narrowed := true }
def SlideSolvesUptoSaid : Prop := slideSolvesUptoRow.holds Tryd.pinned (OpenSpec.upto slideSolvesSpec)

/-- 'squeegeelaw10.SlideApplies', WHERE WHAT IT READS IS OF BULK AT MOST 1048576: true; the input reads as it did. -/
def slideAppliesUptoRow : OpenClaim := { program := "ytjcmalmcijpnnaadoor", sum := "270bdfada533254526b464afe8faf7062b1067dbe9a6343ef06d2cfc98c496c0", func := "squeegee/squeegeelaw10.SlideApplies", spec := "slideApplies", unfollowed := true, recurses := true, named := ["math/bits.deBruijn32tab", "math/bits.deBruijn64tab"], plainKeys := false, apart := false, laid := [("math/bits.deBruijn32tab", laid_math_bits_deBruijn32tab), ("math/bits.deBruijn64tab", laid_math_bits_deBruijn64tab)], narrowed := true }
def SlideAppliesUptoSaid : Prop := slideAppliesUptoRow.holds Tryd.pinned (OpenSpec.upto slideAppliesSpec)

/-- 'squeegeelaw10.SlideBack', WHERE WHAT IT READS IS OF BULK AT MOST 1048576: true; the input reads as it did. -/
def slideBackUptoRow : OpenClaim := { program := "ytjcmalmcijpnnaadoor", sum := "270bdfada533254526b464afe8faf7062b1067dbe9a6343ef06d2cfc98c496c0", func := "squeegee/squeegeelaw10.SlideBack", spec := "slideBack", unfollowed := true, recurses := true, named := ["math/bits.deBruijn32tab", "math/bits.deBruijn64tab"], plainKeys := false, apart := false, laid := [("math/bits.deBruijn32tab", laid_math_bits_deBruijn32tab), ("math/bits.deBruijn64tab", laid_math_bits_deBruijn64tab)], narrowed := true }
def SlideBackUptoSaid : Prop := slideBackUptoRow.holds Tryd.pinned (OpenSpec.upto slideBackSpec)

/-- 'squeegeelaw10.SlideBoards', WHERE WHAT IT READS IS OF BULK AT MOST 1048576: true; the input reads as it did. -/
def slideBoardsUptoRow : OpenClaim := { program := "ytjcmalmcijpnnaadoor", sum := "270bdfada533254526b464afe8faf7062b1067dbe9a6343ef06d2cfc98c496c0", func := "squeegee/squeegeelaw10.SlideBoards", spec := "slideBoards", unfollowed := true, recurses := true, named := ["math/bits.deBruijn32tab", "math/bits.deBruijn64tab"], plainKeys := false, apart := false, laid := [("math/bits.deBruijn32tab", laid_math_bits_deBruijn32tab), ("math/bits.deBruijn64tab", laid_math_bits_deBruijn64tab)], narrowed := true }
def SlideBoardsUptoSaid : Prop := slideBoardsUptoRow.holds Tryd.pinned (OpenSpec.upto slideBoardsSpec)

/-- 'squeegeelaw10.SlideWilson', WHERE WHAT IT READS IS OF BULK AT MOST 1048576: true; the input reads as it did. -/
def slideWilsonUptoRow : OpenClaim := { program := "ytjcmalmcijpnnaadoor", sum := "270bdfada533254526b464afe8faf7062b1067dbe9a6343ef06d2cfc98c496c0", func := "squeegee/squeegeelaw10.SlideWilson", spec := "slideWilson", unfollowed := true, recurses := true, named := ["math/bits.deBruijn32tab", "math/bits.deBruijn64tab"], plainKeys := false, apart := false, laid := [("math/bits.deBruijn32tab", laid_math_bits_deBruijn32tab), ("math/bits.deBruijn64tab", laid_math_bits_deBruijn64tab)], narrowed := true }
def SlideWilsonUptoSaid : Prop := slideWilsonUptoRow.holds Tryd.pinned (OpenSpec.upto slideWilsonSpec)

/-- 'squeegeelaw10.SlideChecks', WHERE WHAT IT READS IS OF BULK AT MOST 1048576: true; the input reads as it did. -/
def slideChecksUptoRow : OpenClaim := { program := "ytjcmalmcijpnnaadoor", sum := "270bdfada533254526b464afe8faf7062b1067dbe9a6343ef06d2cfc98c496c0", func := "squeegee/squeegeelaw10.SlideChecks", spec := "slideChecks", unfollowed := true, recurses := true, named := ["math/bits.deBruijn32tab", "math/bits.deBruijn64tab"], plainKeys := false, apart := false, laid := [("math/bits.deBruijn32tab", laid_math_bits_deBruijn32tab), ("math/bits.deBruijn64tab", laid_math_bits_deBruijn64tab)], narrowed := true }
def SlideChecksUptoSaid : Prop := slideChecksUptoRow.holds Tryd.pinned (OpenSpec.upto slideChecksSpec)

end Rows
end Go.Proofs.YtjcmalmcijpnnaaDoor
