/-
  NARROWER THAN 'FOR EVERY INPUT', by the rows' own cells (each row's printed sentence says how): ProofSound: laid · ProofCores: laid · ProofResolves: laid · ProofModels: laid · ProofExpands: laid · ProofOwn: laid · ProofSteps: laid · ProofFollowed: laid · ProofMore: laid · ProofComplete: laid · ProofBetween: laid.
  DERIVED. THE GIVEN ROWS OF THIS SEAT. 11 by the template 'for every input the law returns true; each argument reads behind the call as it read before'; 0 by the template 'total and deterministic' (their statements: YtfjloafebkjadaaGreatDoorTotals.lean).
  GIVEN WITH THE SEED: the statements are not yours to turn. If you find one false, say at which input.
  Laid BY PROGRAM, IN A SANDBOX (cutbox-rows.mjs): the forced cells as the released guide's own fill.sh prints them over the translation 3278ddb7b0892a66… (all of the seat's roots in one cut). By AI agents, Wed Nov 11 2026. No macro, syntax, notation, axiom, sorry.
-/
import Derived.Test.YtfjloafebkjadaaGreatDoorChecked
import GoSem.Claim
import GoSem.ClaimJoined
import GoSem.ClaimMapViews
import Derived.JoinedTies
import Derived.KernelRfl
namespace Go.Proofs.YtfjloafebkjadaaGreatDoor
/- THE CELL 'sum', in the pinned program and in every row, IS THE sha256 OF THE DUMP (.gsa) THAT YtfjloafebkjadaaGreatDoorProg.lean LOADS. Nothing in Lean hashes anything: it is a label: what it is worth is what the hold of that sum in a sandbox is worth. -/
noncomputable def Tryz.pinned : Pinned := { name := "ytfjloafebkjadaagreatdoor", sum := "3278ddb7b0892a668528fd9bd265bb4cb7ec0488ffa6c8c94a945a0750d9ba6f", checked := Tryz.checked }
namespace Rows
def none {H : Type} : Left H := { results := [], args := [] }

/- WHAT THE LISTED PACKAGE-LEVEL VARIABLES READ AS WHEN THE CALL BEGINS. Each datum BY PROGRAM (the guide's laid-datum.mjs) off the statement by which the dump's own 'gosem.cut.vars' lays the variable. In a bare row this is a premise. The card (YtfjloafebkjadaaGreatDoorCards.lean) ties it to the program's text. -/
def laid_math_bits_deBruijn32tab {H : Type} : DataW H := .agg [.lit (.int .u8 0), .lit (.int .u8 1), .lit (.int .u8 28), .lit (.int .u8 2), .lit (.int .u8 29), .lit (.int .u8 14), .lit (.int .u8 24), .lit (.int .u8 3), .lit (.int .u8 30), .lit (.int .u8 22), .lit (.int .u8 20), .lit (.int .u8 15), .lit (.int .u8 25), .lit (.int .u8 17), .lit (.int .u8 4), .lit (.int .u8 8), .lit (.int .u8 31), .lit (.int .u8 27), .lit (.int .u8 13), .lit (.int .u8 23), .lit (.int .u8 21), .lit (.int .u8 19), .lit (.int .u8 16), .lit (.int .u8 7), .lit (.int .u8 26), .lit (.int .u8 12), .lit (.int .u8 18), .lit (.int .u8 6), .lit (.int .u8 11), .lit (.int .u8 5), .lit (.int .u8 10), .lit (.int .u8 9)]
def laid_math_bits_deBruijn64tab {H : Type} : DataW H := .agg [.lit (.int .u8 0), .lit (.int .u8 1), .lit (.int .u8 56), .lit (.int .u8 2), .lit (.int .u8 57), .lit (.int .u8 49), .lit (.int .u8 28), .lit (.int .u8 3), .lit (.int .u8 61), .lit (.int .u8 58), .lit (.int .u8 42), .lit (.int .u8 50), .lit (.int .u8 38), .lit (.int .u8 29), .lit (.int .u8 17), .lit (.int .u8 4), .lit (.int .u8 62), .lit (.int .u8 47), .lit (.int .u8 59), .lit (.int .u8 36), .lit (.int .u8 45), .lit (.int .u8 43), .lit (.int .u8 51), .lit (.int .u8 22), .lit (.int .u8 53), .lit (.int .u8 39), .lit (.int .u8 33), .lit (.int .u8 30), .lit (.int .u8 24), .lit (.int .u8 18), .lit (.int .u8 12), .lit (.int .u8 5), .lit (.int .u8 63), .lit (.int .u8 55), .lit (.int .u8 48), .lit (.int .u8 27), .lit (.int .u8 60), .lit (.int .u8 41), .lit (.int .u8 37), .lit (.int .u8 16), .lit (.int .u8 46), .lit (.int .u8 35), .lit (.int .u8 44), .lit (.int .u8 21), .lit (.int .u8 52), .lit (.int .u8 32), .lit (.int .u8 23), .lit (.int .u8 11), .lit (.int .u8 54), .lit (.int .u8 26), .lit (.int .u8 40), .lit (.int .u8 15), .lit (.int .u8 34), .lit (.int .u8 20), .lit (.int .u8 31), .lit (.int .u8 10), .lit (.int .u8 25), .lit (.int .u8 14), .lit (.int .u8 19), .lit (.int .u8 9), .lit (.int .u8 13), .lit (.int .u8 8), .lit (.int .u8 7), .lit (.int .u8 6)]
def laid_internal_strconv_uint64pow10 {H : Type} : DataW H := .agg [.lit (.int .u64 1), .lit (.int .u64 10), .lit (.int .u64 100), .lit (.int .u64 1000), .lit (.int .u64 10000), .lit (.int .u64 100000), .lit (.int .u64 1000000), .lit (.int .u64 10000000), .lit (.int .u64 100000000), .lit (.int .u64 1000000000), .lit (.int .u64 10000000000), .lit (.int .u64 100000000000), .lit (.int .u64 1000000000000), .lit (.int .u64 10000000000000), .lit (.int .u64 100000000000000), .lit (.int .u64 1000000000000000), .lit (.int .u64 10000000000000000), .lit (.int .u64 100000000000000000), .lit (.int .u64 1000000000000000000), .lit (.int .u64 10000000000000000000)]

/-- 'netwrightlaw27.ProofSound': WHATEVER THE INPUT: true; the input reads as it did. -/
def proofSoundSpec : ChangeSpec := { name := "proofSound", fn := fun _ => fun
  | [d1, d2, d3] => { results := [.lit (.bool true)], args := [d1, d2, d3] }
  | _ => none }
def proofSoundRow : OpenClaim := { program := "ytfjloafebkjadaagreatdoor", sum := "3278ddb7b0892a668528fd9bd265bb4cb7ec0488ffa6c8c94a945a0750d9ba6f", func := "netwright/netwrightlaw27.ProofSound", spec := "proofSound", unfollowed := true, recurses := true, named := ["internal/strconv.uint64pow10", "math/bits.deBruijn32tab", "math/bits.deBruijn64tab"], plainKeys := false, apart := false, laid := [("math/bits.deBruijn32tab", laid_math_bits_deBruijn32tab), ("math/bits.deBruijn64tab", laid_math_bits_deBruijn64tab), ("internal/strconv.uint64pow10", laid_internal_strconv_uint64pow10)] }
def ProofSoundSaid : Prop := proofSoundRow.holds Tryz.pinned (OpenSpec.ofChange proofSoundSpec)

/-- ITS FALSE NEIGHBOUR: 'it returns false'. Refute it at one input. -/
def proofSoundWrong : ChangeSpec := { name := "proofSound", fn := fun _ => fun
  | [d1, d2, d3] => { results := [.lit (.bool false)], args := [d1, d2, d3] }
  | _ => none }
def ProofSoundWrongFalsely : Prop := proofSoundRow.holds Tryz.pinned (OpenSpec.ofChange proofSoundWrong)

/-- 'netwrightlaw27.ProofCores': WHATEVER THE INPUT: true; the input reads as it did. -/
def proofCoresSpec : ChangeSpec := { name := "proofCores", fn := fun _ => fun
  | [d1, d2] => { results := [.lit (.bool true)], args := [d1, d2] }
  | _ => none }
def proofCoresRow : OpenClaim := { program := "ytfjloafebkjadaagreatdoor", sum := "3278ddb7b0892a668528fd9bd265bb4cb7ec0488ffa6c8c94a945a0750d9ba6f", func := "netwright/netwrightlaw27.ProofCores", spec := "proofCores", unfollowed := true, recurses := true, named := ["internal/strconv.uint64pow10", "math/bits.deBruijn32tab", "math/bits.deBruijn64tab"], plainKeys := false, apart := false, laid := [("math/bits.deBruijn32tab", laid_math_bits_deBruijn32tab), ("math/bits.deBruijn64tab", laid_math_bits_deBruijn64tab), ("internal/strconv.uint64pow10", laid_internal_strconv_uint64pow10)] }
def ProofCoresSaid : Prop := proofCoresRow.holds Tryz.pinned (OpenSpec.ofChange proofCoresSpec)

/-- ITS FALSE NEIGHBOUR: 'it returns false'. Refute it at one input. -/
def proofCoresWrong : ChangeSpec := { name := "proofCores", fn := fun _ => fun
  | [d1, d2] => { results := [.lit (.bool false)], args := [d1, d2] }
  | _ => none }
def ProofCoresWrongFalsely : Prop := proofCoresRow.holds Tryz.pinned (OpenSpec.ofChange proofCoresWrong)

/-- 'netwrightlaw27.ProofResolves': WHATEVER THE INPUT: true; the input reads as it did. -/
def proofResolvesSpec : ChangeSpec := { name := "proofResolves", fn := fun _ => fun
  | [d1, d2, d3] => { results := [.lit (.bool true)], args := [d1, d2, d3] }
  | _ => none }
def proofResolvesRow : OpenClaim := { program := "ytfjloafebkjadaagreatdoor", sum := "3278ddb7b0892a668528fd9bd265bb4cb7ec0488ffa6c8c94a945a0750d9ba6f", func := "netwright/netwrightlaw27.ProofResolves", spec := "proofResolves", unfollowed := true, recurses := true, named := ["internal/strconv.uint64pow10", "math/bits.deBruijn32tab", "math/bits.deBruijn64tab"], plainKeys := false, apart := false, laid := [("math/bits.deBruijn32tab", laid_math_bits_deBruijn32tab), ("math/bits.deBruijn64tab", laid_math_bits_deBruijn64tab), ("internal/strconv.uint64pow10", laid_internal_strconv_uint64pow10)] }
def ProofResolvesSaid : Prop := proofResolvesRow.holds Tryz.pinned (OpenSpec.ofChange proofResolvesSpec)

/-- ITS FALSE NEIGHBOUR: 'it returns false'. Refute it at one input. -/
def proofResolvesWrong : ChangeSpec := { name := "proofResolves", fn := fun _ => fun
  | [d1, d2, d3] => { results := [.lit (.bool false)], args := [d1, d2, d3] }
  | _ => none }
def ProofResolvesWrongFalsely : Prop := proofResolvesRow.holds Tryz.pinned (OpenSpec.ofChange proofResolvesWrong)

/-- 'netwrightlaw27.ProofModels': WHATEVER THE INPUT: true; the input reads as it did. -/
def proofModelsSpec : ChangeSpec := { name := "proofModels", fn := fun _ => fun
  | [d1, d2, d3] => { results := [.lit (.bool true)], args := [d1, d2, d3] }
  | _ => none }
def proofModelsRow : OpenClaim := { program := "ytfjloafebkjadaagreatdoor", sum := "3278ddb7b0892a668528fd9bd265bb4cb7ec0488ffa6c8c94a945a0750d9ba6f", func := "netwright/netwrightlaw27.ProofModels", spec := "proofModels", unfollowed := true, recurses := true, named := ["internal/strconv.uint64pow10", "math/bits.deBruijn32tab", "math/bits.deBruijn64tab"], plainKeys := false, apart := false, laid := [("math/bits.deBruijn32tab", laid_math_bits_deBruijn32tab), ("math/bits.deBruijn64tab", laid_math_bits_deBruijn64tab), ("internal/strconv.uint64pow10", laid_internal_strconv_uint64pow10)] }
def ProofModelsSaid : Prop := proofModelsRow.holds Tryz.pinned (OpenSpec.ofChange proofModelsSpec)

/-- ITS FALSE NEIGHBOUR: 'it returns false'. Refute it at one input. -/
def proofModelsWrong : ChangeSpec := { name := "proofModels", fn := fun _ => fun
  | [d1, d2, d3] => { results := [.lit (.bool false)], args := [d1, d2, d3] }
  | _ => none }
def ProofModelsWrongFalsely : Prop := proofModelsRow.holds Tryz.pinned (OpenSpec.ofChange proofModelsWrong)

/-- 'netwrightlaw27.ProofExpands': WHATEVER THE INPUT: true; the input reads as it did. -/
def proofExpandsSpec : ChangeSpec := { name := "proofExpands", fn := fun _ => fun
  | [d1, d2] => { results := [.lit (.bool true)], args := [d1, d2] }
  | _ => none }
def proofExpandsRow : OpenClaim := { program := "ytfjloafebkjadaagreatdoor", sum := "3278ddb7b0892a668528fd9bd265bb4cb7ec0488ffa6c8c94a945a0750d9ba6f", func := "netwright/netwrightlaw27.ProofExpands", spec := "proofExpands", unfollowed := true, recurses := true, named := ["internal/strconv.uint64pow10", "math/bits.deBruijn32tab", "math/bits.deBruijn64tab"], plainKeys := false, apart := false, laid := [("math/bits.deBruijn32tab", laid_math_bits_deBruijn32tab), ("math/bits.deBruijn64tab", laid_math_bits_deBruijn64tab), ("internal/strconv.uint64pow10", laid_internal_strconv_uint64pow10)] }
def ProofExpandsSaid : Prop := proofExpandsRow.holds Tryz.pinned (OpenSpec.ofChange proofExpandsSpec)

/-- ITS FALSE NEIGHBOUR: 'it returns false'. Refute it at one input. -/
def proofExpandsWrong : ChangeSpec := { name := "proofExpands", fn := fun _ => fun
  | [d1, d2] => { results := [.lit (.bool false)], args := [d1, d2] }
  | _ => none }
def ProofExpandsWrongFalsely : Prop := proofExpandsRow.holds Tryz.pinned (OpenSpec.ofChange proofExpandsWrong)

/-- 'netwrightlaw27.ProofOwn': WHATEVER THE INPUT: true; the input reads as it did. -/
def proofOwnSpec : ChangeSpec := { name := "proofOwn", fn := fun _ => fun
  | [d1, d2, d3] => { results := [.lit (.bool true)], args := [d1, d2, d3] }
  | _ => none }
def proofOwnRow : OpenClaim := { program := "ytfjloafebkjadaagreatdoor", sum := "3278ddb7b0892a668528fd9bd265bb4cb7ec0488ffa6c8c94a945a0750d9ba6f", func := "netwright/netwrightlaw27.ProofOwn", spec := "proofOwn", unfollowed := true, recurses := true, named := ["internal/strconv.uint64pow10", "math/bits.deBruijn32tab", "math/bits.deBruijn64tab"], plainKeys := false, apart := false, laid := [("math/bits.deBruijn32tab", laid_math_bits_deBruijn32tab), ("math/bits.deBruijn64tab", laid_math_bits_deBruijn64tab), ("internal/strconv.uint64pow10", laid_internal_strconv_uint64pow10)] }
def ProofOwnSaid : Prop := proofOwnRow.holds Tryz.pinned (OpenSpec.ofChange proofOwnSpec)

/-- ITS FALSE NEIGHBOUR: 'it returns false'. Refute it at one input. -/
def proofOwnWrong : ChangeSpec := { name := "proofOwn", fn := fun _ => fun
  | [d1, d2, d3] => { results := [.lit (.bool false)], args := [d1, d2, d3] }
  | _ => none }
def ProofOwnWrongFalsely : Prop := proofOwnRow.holds Tryz.pinned (OpenSpec.ofChange proofOwnWrong)

/-- 'netwrightlaw27.ProofSteps': WHATEVER THE INPUT: true; the input reads as it did. -/
def proofStepsSpec : ChangeSpec := { name := "proofSteps", fn := fun _ => fun
  | [d1, d2, d3] => { results := [.lit (.bool true)], args := [d1, d2, d3] }
  | _ => none }
def proofStepsRow : OpenClaim := { program := "ytfjloafebkjadaagreatdoor", sum := "3278ddb7b0892a668528fd9bd265bb4cb7ec0488ffa6c8c94a945a0750d9ba6f", func := "netwright/netwrightlaw27.ProofSteps", spec := "proofSteps", unfollowed := true, recurses := true, named := ["internal/strconv.uint64pow10", "math/bits.deBruijn32tab", "math/bits.deBruijn64tab"], plainKeys := false, apart := false, laid := [("math/bits.deBruijn32tab", laid_math_bits_deBruijn32tab), ("math/bits.deBruijn64tab", laid_math_bits_deBruijn64tab), ("internal/strconv.uint64pow10", laid_internal_strconv_uint64pow10)] }
def ProofStepsSaid : Prop := proofStepsRow.holds Tryz.pinned (OpenSpec.ofChange proofStepsSpec)

/-- ITS FALSE NEIGHBOUR: 'it returns false'. Refute it at one input. -/
def proofStepsWrong : ChangeSpec := { name := "proofSteps", fn := fun _ => fun
  | [d1, d2, d3] => { results := [.lit (.bool false)], args := [d1, d2, d3] }
  | _ => none }
def ProofStepsWrongFalsely : Prop := proofStepsRow.holds Tryz.pinned (OpenSpec.ofChange proofStepsWrong)

/-- 'netwrightlaw27.ProofFollowed': WHATEVER THE INPUT: true; the input reads as it did. -/
def proofFollowedSpec : ChangeSpec := { name := "proofFollowed", fn := fun _ => fun
  | [d1, d2] => { results := [.lit (.bool true)], args := [d1, d2] }
  | _ => none }
def proofFollowedRow : OpenClaim := { program := "ytfjloafebkjadaagreatdoor", sum := "3278ddb7b0892a668528fd9bd265bb4cb7ec0488ffa6c8c94a945a0750d9ba6f", func := "netwright/netwrightlaw27.ProofFollowed", spec := "proofFollowed", unfollowed := true, recurses := true, named := ["internal/strconv.uint64pow10", "math/bits.deBruijn32tab", "math/bits.deBruijn64tab"], plainKeys := false, apart := false, laid := [("math/bits.deBruijn32tab", laid_math_bits_deBruijn32tab), ("math/bits.deBruijn64tab", laid_math_bits_deBruijn64tab), ("internal/strconv.uint64pow10", laid_internal_strconv_uint64pow10)] }
def ProofFollowedSaid : Prop := proofFollowedRow.holds Tryz.pinned (OpenSpec.ofChange proofFollowedSpec)

/-- ITS FALSE NEIGHBOUR: 'it returns false'. Refute it at one input. -/
def proofFollowedWrong : ChangeSpec := { name := "proofFollowed", fn := fun _ => fun
  | [d1, d2] => { results := [.lit (.bool false)], args := [d1, d2] }
  | _ => none }
def ProofFollowedWrongFalsely : Prop := proofFollowedRow.holds Tryz.pinned (OpenSpec.ofChange proofFollowedWrong)

/-- 'netwrightlaw27.ProofMore': WHATEVER THE INPUT: true; the input reads as it did. -/
def proofMoreSpec : ChangeSpec := { name := "proofMore", fn := fun _ => fun
  | [d1, d2, d3] => { results := [.lit (.bool true)], args := [d1, d2, d3] }
  | _ => none }
def proofMoreRow : OpenClaim := { program := "ytfjloafebkjadaagreatdoor", sum := "3278ddb7b0892a668528fd9bd265bb4cb7ec0488ffa6c8c94a945a0750d9ba6f", func := "netwright/netwrightlaw27.ProofMore", spec := "proofMore", unfollowed := true, recurses := true, named := ["internal/strconv.uint64pow10", "math/bits.deBruijn32tab", "math/bits.deBruijn64tab"], plainKeys := false, apart := false, laid := [("math/bits.deBruijn32tab", laid_math_bits_deBruijn32tab), ("math/bits.deBruijn64tab", laid_math_bits_deBruijn64tab), ("internal/strconv.uint64pow10", laid_internal_strconv_uint64pow10)] }
def ProofMoreSaid : Prop := proofMoreRow.holds Tryz.pinned (OpenSpec.ofChange proofMoreSpec)

/-- ITS FALSE NEIGHBOUR: 'it returns false'. Refute it at one input. -/
def proofMoreWrong : ChangeSpec := { name := "proofMore", fn := fun _ => fun
  | [d1, d2, d3] => { results := [.lit (.bool false)], args := [d1, d2, d3] }
  | _ => none }
def ProofMoreWrongFalsely : Prop := proofMoreRow.holds Tryz.pinned (OpenSpec.ofChange proofMoreWrong)

/-- 'netwrightlaw27.ProofComplete': WHATEVER THE INPUT: true; the input reads as it did. -/
def proofCompleteSpec : ChangeSpec := { name := "proofComplete", fn := fun _ => fun
  | [d] => { results := [.lit (.bool true)], args := [d] }
  | _ => none }
def proofCompleteRow : OpenClaim := { program := "ytfjloafebkjadaagreatdoor", sum := "3278ddb7b0892a668528fd9bd265bb4cb7ec0488ffa6c8c94a945a0750d9ba6f", func := "netwright/netwrightlaw27.ProofComplete", spec := "proofComplete", unfollowed := true, recurses := true, named := ["internal/strconv.uint64pow10", "math/bits.deBruijn32tab", "math/bits.deBruijn64tab"], plainKeys := false, apart := false, laid := [("math/bits.deBruijn32tab", laid_math_bits_deBruijn32tab), ("math/bits.deBruijn64tab", laid_math_bits_deBruijn64tab), ("internal/strconv.uint64pow10", laid_internal_strconv_uint64pow10)] }
def ProofCompleteSaid : Prop := proofCompleteRow.holds Tryz.pinned (OpenSpec.ofChange proofCompleteSpec)

/-- ITS FALSE NEIGHBOUR: 'it returns false'. Refute it at one input. -/
def proofCompleteWrong : ChangeSpec := { name := "proofComplete", fn := fun _ => fun
  | [d] => { results := [.lit (.bool false)], args := [d] }
  | _ => none }
def ProofCompleteWrongFalsely : Prop := proofCompleteRow.holds Tryz.pinned (OpenSpec.ofChange proofCompleteWrong)

/-- 'netwrightlaw27.ProofBetween': WHATEVER THE INPUT: true; the input reads as it did. -/
def proofBetweenSpec : ChangeSpec := { name := "proofBetween", fn := fun _ => fun
  | [d1, d2, d3] => { results := [.lit (.bool true)], args := [d1, d2, d3] }
  | _ => none }
def proofBetweenRow : OpenClaim := { program := "ytfjloafebkjadaagreatdoor", sum := "3278ddb7b0892a668528fd9bd265bb4cb7ec0488ffa6c8c94a945a0750d9ba6f", func := "netwright/netwrightlaw27.ProofBetween", spec := "proofBetween", unfollowed := true, recurses := true, named := ["internal/strconv.uint64pow10", "math/bits.deBruijn32tab", "math/bits.deBruijn64tab"], plainKeys := false, apart := false, laid := [("math/bits.deBruijn32tab", laid_math_bits_deBruijn32tab), ("math/bits.deBruijn64tab", laid_math_bits_deBruijn64tab), ("internal/strconv.uint64pow10", laid_internal_strconv_uint64pow10)] }
def ProofBetweenSaid : Prop := proofBetweenRow.holds Tryz.pinned (OpenSpec.ofChange proofBetweenSpec)

/-- ITS FALSE NEIGHBOUR: 'it returns false'. Refute it at one input. -/
def proofBetweenWrong : ChangeSpec := { name := "proofBetween", fn := fun _ => fun
  | [d1, d2, d3] => { results := [.lit (.bool false)], args := [d1, d2, d3] }
  | _ => none }
def ProofBetweenWrongFalsely : Prop := proofBetweenRow.holds Tryz.pinned (OpenSpec.ofChange proofBetweenWrong)

/- THE SECOND FORM. 'bulk': how many values and letters a reading holds, each counted each time it is reached (what is shared counts as often as it is met; a slice's spare places count too). A statement '..UptoSaid' is the law's where the arguments, and the package variables that the reading takes, are together of bulk at most 1048576: NARROWER than '..Said'. Prove '..Said' where nothing that the law and all that it calls make is longer than what came in: it says more and counts as full. Else prove '..UptoSaid'. A law counts once. -/
mutual
def uptoBulk {H : Type} : DataW H → Nat
  | .lit (.string bytes) => bytes.length + 1
  | .lit _ => 1
  | .nil => 1
  | .ptr d => uptoBulk d + 1
  | .slice elems spare => uptoBulkAll elems + uptoBulkAll spare + 1
  | .agg parts => uptoBulkAll parts + 1
  | .iface _ d => uptoBulk d + 1
  | .map entries => uptoBulkEntries entries + 1
  | .held _ => 1
def uptoBulkAll {H : Type} : List (DataW H) → Nat
  | [] => 0
  | d :: r => uptoBulk d + uptoBulkAll r
def uptoBulkEntries {H : Type} : List (Lit × DataW H) → Nat
  | [] => 0
  | x :: r => uptoBulkEntry x + uptoBulkEntries r
def uptoBulkEntry {H : Type} : Lit × DataW H → Nat
  | (.string bytes, d) => bytes.length + uptoBulk d + 1
  | (_, d) => uptoBulk d + 1
 end
def uptoSmall : (H : Type) → List (DataW H) → Bool := fun _ ds => decide (uptoBulkAll ds ≤ 1048576)
def OpenSpec.upto (s : _root_.Go.ChangeSpec) : _root_.Go.OpenSpec := { _root_.Go.OpenSpec.ofChange s with cond := some uptoSmall }

/-- 'netwrightlaw27.ProofSound', WHERE WHAT IT READS IS OF BULK AT MOST 1048576: true; the input reads as it did. -/
def proofSoundUptoRow : OpenClaim := { program := "ytfjloafebkjadaagreatdoor", sum := "3278ddb7b0892a668528fd9bd265bb4cb7ec0488ffa6c8c94a945a0750d9ba6f", func := "netwright/netwrightlaw27.ProofSound", spec := "proofSound", unfollowed := true, recurses := true, named := ["internal/strconv.uint64pow10", "math/bits.deBruijn32tab", "math/bits.deBruijn64tab"], plainKeys := false, apart := false, laid := [("math/bits.deBruijn32tab", laid_math_bits_deBruijn32tab), ("math/bits.deBruijn64tab", laid_math_bits_deBruijn64tab), ("internal/strconv.uint64pow10", laid_internal_strconv_uint64pow10)], narrowed := true }
def ProofSoundUptoSaid : Prop := proofSoundUptoRow.holds Tryz.pinned (OpenSpec.upto proofSoundSpec)

/-- 'netwrightlaw27.ProofCores', WHERE WHAT IT READS IS OF BULK AT MOST 1048576: true; the input reads as it did. -/
def proofCoresUptoRow : OpenClaim := { program := "ytfjloafebkjadaagreatdoor", sum := "3278ddb7b0892a668528fd9bd265bb4cb7ec0488ffa6c8c94a945a0750d9ba6f", func := "netwright/netwrightlaw27.ProofCores", spec := "proofCores", unfollowed := true, recurses := true, named := ["internal/strconv.uint64pow10", "math/bits.deBruijn32tab", "math/bits.deBruijn64tab"], plainKeys := false, apart := false, laid := [("math/bits.deBruijn32tab", laid_math_bits_deBruijn32tab), ("math/bits.deBruijn64tab", laid_math_bits_deBruijn64tab), ("internal/strconv.uint64pow10", laid_internal_strconv_uint64pow10)], narrowed := true }
def ProofCoresUptoSaid : Prop := proofCoresUptoRow.holds Tryz.pinned (OpenSpec.upto proofCoresSpec)

/-- 'netwrightlaw27.ProofResolves', WHERE WHAT IT READS IS OF BULK AT MOST 1048576: true; the input reads as it did. -/
def proofResolvesUptoRow : OpenClaim := { program := "ytfjloafebkjadaagreatdoor", sum := "3278ddb7b0892a668528fd9bd265bb4cb7ec0488ffa6c8c94a945a0750d9ba6f", func := "netwright/netwrightlaw27.ProofResolves", spec := "proofResolves", unfollowed := true, recurses := true, named := ["internal/strconv.uint64pow10", "math/bits.deBruijn32tab", "math/bits.deBruijn64tab"], plainKeys := false, apart := false, laid := [("math/bits.deBruijn32tab", laid_math_bits_deBruijn32tab), ("math/bits.deBruijn64tab", laid_math_bits_deBruijn64tab), ("internal/strconv.uint64pow10", laid_internal_strconv_uint64pow10)], narrowed := true }
def ProofResolvesUptoSaid : Prop := proofResolvesUptoRow.holds Tryz.pinned (OpenSpec.upto proofResolvesSpec)

/-- 'netwrightlaw27.ProofModels', WHERE WHAT IT READS IS OF BULK AT MOST 1048576: true; the input reads as it did. -/
def proofModelsUptoRow : OpenClaim := { program := "ytfjloafebkjadaagreatdoor", sum := "3278ddb7b0892a668528fd9bd265bb4cb7ec0488ffa6c8c94a945a0750d9ba6f", func := "netwright/netwrightlaw27.ProofModels", spec := "proofModels", unfollowed := true, recurses := true, named := ["internal/strconv.uint64pow10", "math/bits.deBruijn32tab", "math/bits.deBruijn64tab"], plainKeys := false, apart := false, laid := [("math/bits.deBruijn32tab", laid_math_bits_deBruijn32tab), ("math/bits.deBruijn64tab", laid_math_bits_deBruijn64tab), ("internal/strconv.uint64pow10", laid_internal_strconv_uint64pow10)], narrowed := true }
def ProofModelsUptoSaid : Prop := proofModelsUptoRow.holds Tryz.pinned (OpenSpec.upto proofModelsSpec)

/-- 'netwrightlaw27.ProofExpands', WHERE WHAT IT READS IS OF BULK AT MOST 1048576: true; the input reads as it did. -/
def proofExpandsUptoRow : OpenClaim := { program := "ytfjloafebkjadaagreatdoor", sum := "3278ddb7b0892a668528fd9bd265bb4cb7ec0488ffa6c8c94a945a0750d9ba6f", func := "netwright/netwrightlaw27.ProofExpands", spec := "proofExpands", unfollowed := true, recurses := true, named := ["internal/strconv.uint64pow10", "math/bits.deBruijn32tab", "math/bits.deBruijn64tab"], plainKeys := false, apart := false, laid := [("math/bits.deBruijn32tab", laid_math_bits_deBruijn32tab), ("math/bits.deBruijn64tab", laid_math_bits_deBruijn64tab), ("internal/strconv.uint64pow10", laid_internal_strconv_uint64pow10)], narrowed := true }
def ProofExpandsUptoSaid : Prop := proofExpandsUptoRow.holds Tryz.pinned (OpenSpec.upto proofExpandsSpec)

/-- 'netwrightlaw27.ProofOwn', WHERE WHAT IT READS IS OF BULK AT MOST 1048576: true; the input reads as it did. -/
def proofOwnUptoRow : OpenClaim := { program := "ytfjloafebkjadaagreatdoor", sum := "3278ddb7b0892a668528fd9bd265bb4cb7ec0488ffa6c8c94a945a0750d9ba6f", func := "netwright/netwrightlaw27.ProofOwn", spec := "proofOwn", unfollowed := true, recurses := true, named := ["internal/strconv.uint64pow10", "math/bits.deBruijn32tab", "math/bits.deBruijn64tab"], plainKeys := false, apart := false, laid := [("math/bits.deBruijn32tab", laid_math_bits_deBruijn32tab), ("math/bits.deBruijn64tab", laid_math_bits_deBruijn64tab), ("internal/strconv.uint64pow10", laid_internal_strconv_uint64pow10)], narrowed := true }
def ProofOwnUptoSaid : Prop := proofOwnUptoRow.holds Tryz.pinned (OpenSpec.upto proofOwnSpec)

/-- 'netwrightlaw27.ProofSteps', WHERE WHAT IT READS IS OF BULK AT MOST 1048576: true; the input reads as it did. -/
def proofStepsUptoRow : OpenClaim := { program := "ytfjloafebkjadaagreatdoor", sum := "3278ddb7b0892a668528fd9bd265bb4cb7ec0488ffa6c8c94a945a0750d9ba6f", func := "netwright/netwrightlaw27.ProofSteps", spec := "proofSteps", unfollowed := true, recurses := true, named := ["internal/strconv.uint64pow10", "math/bits.deBruijn32tab", "math/bits.deBruijn64tab"], plainKeys := false, apart := false, laid := [("math/bits.deBruijn32tab", laid_math_bits_deBruijn32tab), ("math/bits.deBruijn64tab", laid_math_bits_deBruijn64tab), ("internal/strconv.uint64pow10", laid_internal_strconv_uint64pow10)], narrowed := true }
def ProofStepsUptoSaid : Prop := proofStepsUptoRow.holds Tryz.pinned (OpenSpec.upto proofStepsSpec)

/-- 'netwrightlaw27.ProofFollowed', WHERE WHAT IT READS IS OF BULK AT MOST 1048576: true; the input reads as it did. -/
def proofFollowedUptoRow : OpenClaim := { program := "ytfjloafebkjadaagreatdoor", sum := "3278ddb7b0892a668528fd9bd265bb4cb7ec0488ffa6c8c94a945a0750d9ba6f", func := "netwright/netwrightlaw27.ProofFollowed", spec := "proofFollowed", unfollowed := true, recurses := true, named := ["internal/strconv.uint64pow10", "math/bits.deBruijn32tab", "math/bits.deBruijn64tab"], plainKeys := false, apart := false, laid := [("math/bits.deBruijn32tab", laid_math_bits_deBruijn32tab), ("math/bits.deBruijn64tab", laid_math_bits_deBruijn64tab), ("internal/strconv.uint64pow10", laid_internal_strconv_uint64pow10)], narrowed := true }
def ProofFollowedUptoSaid : Prop := proofFollowedUptoRow.holds Tryz.pinned (OpenSpec.upto proofFollowedSpec)

/-- 'netwrightlaw27.ProofMore', WHERE WHAT IT READS IS OF BULK AT MOST 1048576: true; the input reads as it did. -/
def proofMoreUptoRow : OpenClaim := { program := "ytfjloafebkjadaagreatdoor", sum := "3278ddb7b0892a668528fd9bd265bb4cb7ec0488ffa6c8c94a945a0750d9ba6f", func := "netwright/netwrightlaw27.ProofMore", spec := "proofMore", unfollowed := true, recurses := true, named := ["internal/strconv.uint64pow10", "math/bits.deBruijn32tab", "math/bits.deBruijn64tab"], plainKeys := false, apart := false, laid := [("math/bits.deBruijn32tab", laid_math_bits_deBruijn32tab), ("math/bits.deBruijn64tab", laid_math_bits_deBruijn64tab), ("internal/strconv.uint64pow10", laid_internal_strconv_uint64pow10)], narrowed := true }
def ProofMoreUptoSaid : Prop := proofMoreUptoRow.holds Tryz.pinned (OpenSpec.upto proofMoreSpec)

/-- 'netwrightlaw27.ProofComplete', WHERE WHAT IT READS IS OF BULK AT MOST 1048576: true; the input reads as it did. -/
def proofCompleteUptoRow : OpenClaim := { program := "ytfjloafebkjadaagreatdoor", sum := "3278ddb7b0892a668528fd9bd265bb4cb7ec0488ffa6c8c94a945a0750d9ba6f", func := "netwright/netwrightlaw27.ProofComplete", spec := "proofComplete", unfollowed := true, recurses := true, named := ["internal/strconv.uint64pow10", "math/bits.deBruijn32tab", "math/bits.deBruijn64tab"], plainKeys := false, apart := false, laid := [("math/bits.deBruijn32tab", laid_math_bits_deBruijn32tab), ("math/bits.deBruijn64tab", laid_math_bits_deBruijn64tab), ("internal/strconv.uint64pow10", laid_internal_strconv_uint64pow10)], narrowed := true }
def ProofCompleteUptoSaid : Prop := proofCompleteUptoRow.holds Tryz.pinned (OpenSpec.upto proofCompleteSpec)

/-- 'netwrightlaw27.ProofBetween', WHERE WHAT IT READS IS OF BULK AT MOST 1048576: true; the input reads as it did. -/
def proofBetweenUptoRow : OpenClaim := { program := "ytfjloafebkjadaagreatdoor", sum := "3278ddb7b0892a668528fd9bd265bb4cb7ec0488ffa6c8c94a945a0750d9ba6f", func := "netwright/netwrightlaw27.ProofBetween", spec := "proofBetween", unfollowed := true, recurses := true, named := ["internal/strconv.uint64pow10", "math/bits.deBruijn32tab", "math/bits.deBruijn64tab"], plainKeys := false, apart := false, laid := [("math/bits.deBruijn32tab", laid_math_bits_deBruijn32tab), ("math/bits.deBruijn64tab", laid_math_bits_deBruijn64tab), ("internal/strconv.uint64pow10", laid_internal_strconv_uint64pow10)], narrowed := true }
def ProofBetweenUptoSaid : Prop := proofBetweenUptoRow.holds Tryz.pinned (OpenSpec.upto proofBetweenSpec)

end Rows
end Go.Proofs.YtfjloafebkjadaaGreatDoor
