/-
  No cell of these rows narrows 'for every input' (looked for: loops, veiled, ifaces, maps, wideKeys, modest, calm, conditions, laid).
  DERIVED. THE GIVEN ROWS OF THIS SEAT. 5 by the template 'for every input the law returns true; each argument reads behind the call as it read before'; 0 by the template 'total and deterministic' (their statements: YtoapldhadeoeiaaGreatTotals.lean).
  GIVEN WITH THE SEED: the statements are not yours to turn. If you find one false, say at which input.
  Laid BY PROGRAM, IN A SANDBOX (cutbox-rows.mjs): the forced cells as the released guide's own fill.sh prints them over the translation beaa069322c1eca4… (all of the seat's roots in one cut). By AI agents, Wed Nov 11 2026. No macro, syntax, notation, axiom, sorry.
-/
import Derived.Test.YtoapldhadeoeiaaGreatChecked
import GoSem.Claim
import GoSem.ClaimJoined
import GoSem.ClaimMapViews
import Derived.JoinedTies
import Derived.KernelRfl
namespace Go.Proofs.YtoapldhadeoeiaaGreat
/- THE CELL 'sum', in the pinned program and in every row, IS THE sha256 OF THE DUMP (.gsa) THAT YtoapldhadeoeiaaGreatProg.lean LOADS. Nothing in Lean hashes anything: it is a label: what it is worth is what the hold of that sum in a sandbox is worth. -/
noncomputable def Tryz.pinned : Pinned := { name := "ytoapldhadeoeiaagreat", sum := "beaa069322c1eca400f72b3c807997df9d2f926ddead1a7466c2edb0eff91735", checked := Tryz.checked }
namespace Rows
def none {H : Type} : Left H := { results := [], args := [] }

/-- 'confluencelaw08.DagBases': WHATEVER THE INPUT: true; the input reads as it did. -/
def dagBasesSpec : ChangeSpec := { name := "dagBases", fn := fun _ => fun
  | [d] => { results := [.lit (.bool true)], args := [d] }
  | _ => none }
def dagBasesRow : OpenClaim := { program := "ytoapldhadeoeiaagreat", sum := "beaa069322c1eca400f72b3c807997df9d2f926ddead1a7466c2edb0eff91735", func := "confluence/confluencelaw08.DagBases", spec := "dagBases", unfollowed := true, recurses := true, plainKeys := false, apart := false }
def DagBasesSaid : Prop := dagBasesRow.holds Tryz.pinned (OpenSpec.ofChange dagBasesSpec)

/-- ITS FALSE NEIGHBOUR: 'it returns false'. Refute it at one input. -/
def dagBasesWrong : ChangeSpec := { name := "dagBases", fn := fun _ => fun
  | [d] => { results := [.lit (.bool false)], args := [d] }
  | _ => none }
def DagBasesWrongFalsely : Prop := dagBasesRow.holds Tryz.pinned (OpenSpec.ofChange dagBasesWrong)

/-- 'confluencelaw08.DagMeets': WHATEVER THE INPUT: true; the input reads as it did. -/
def dagMeetsSpec : ChangeSpec := { name := "dagMeets", fn := fun _ => fun
  | [d] => { results := [.lit (.bool true)], args := [d] }
  | _ => none }
def dagMeetsRow : OpenClaim := { program := "ytoapldhadeoeiaagreat", sum := "beaa069322c1eca400f72b3c807997df9d2f926ddead1a7466c2edb0eff91735", func := "confluence/confluencelaw08.DagMeets", spec := "dagMeets", unfollowed := true, recurses := true, plainKeys := false, apart := false }
def DagMeetsSaid : Prop := dagMeetsRow.holds Tryz.pinned (OpenSpec.ofChange dagMeetsSpec)

/-- ITS FALSE NEIGHBOUR: 'it returns false'. Refute it at one input. -/
def dagMeetsWrong : ChangeSpec := { name := "dagMeets", fn := fun _ => fun
  | [d] => { results := [.lit (.bool false)], args := [d] }
  | _ => none }
def DagMeetsWrongFalsely : Prop := dagMeetsRow.holds Tryz.pinned (OpenSpec.ofChange dagMeetsWrong)

/-- 'confluencelaw08.DagGets': WHATEVER THE INPUT: true; the input reads as it did. -/
def dagGetsSpec : ChangeSpec := { name := "dagGets", fn := fun _ => fun
  | [d] => { results := [.lit (.bool true)], args := [d] }
  | _ => none }
def dagGetsRow : OpenClaim := { program := "ytoapldhadeoeiaagreat", sum := "beaa069322c1eca400f72b3c807997df9d2f926ddead1a7466c2edb0eff91735", func := "confluence/confluencelaw08.DagGets", spec := "dagGets", unfollowed := true, recurses := true, plainKeys := false, apart := false }
def DagGetsSaid : Prop := dagGetsRow.holds Tryz.pinned (OpenSpec.ofChange dagGetsSpec)

/-- ITS FALSE NEIGHBOUR: 'it returns false'. Refute it at one input. -/
def dagGetsWrong : ChangeSpec := { name := "dagGets", fn := fun _ => fun
  | [d] => { results := [.lit (.bool false)], args := [d] }
  | _ => none }
def DagGetsWrongFalsely : Prop := dagGetsRow.holds Tryz.pinned (OpenSpec.ofChange dagGetsWrong)

/-- 'confluencelaw08.DagCloses': WHATEVER THE INPUT: true; the input reads as it did. -/
def dagClosesSpec : ChangeSpec := { name := "dagCloses", fn := fun _ => fun
  | [d] => { results := [.lit (.bool true)], args := [d] }
  | _ => none }
def dagClosesRow : OpenClaim := { program := "ytoapldhadeoeiaagreat", sum := "beaa069322c1eca400f72b3c807997df9d2f926ddead1a7466c2edb0eff91735", func := "confluence/confluencelaw08.DagCloses", spec := "dagCloses", unfollowed := true, recurses := true, plainKeys := false, apart := false }
def DagClosesSaid : Prop := dagClosesRow.holds Tryz.pinned (OpenSpec.ofChange dagClosesSpec)

/-- ITS FALSE NEIGHBOUR: 'it returns false'. Refute it at one input. -/
def dagClosesWrong : ChangeSpec := { name := "dagCloses", fn := fun _ => fun
  | [d] => { results := [.lit (.bool false)], args := [d] }
  | _ => none }
def DagClosesWrongFalsely : Prop := dagClosesRow.holds Tryz.pinned (OpenSpec.ofChange dagClosesWrong)

/-- 'confluencelaw08.DagStands': WHATEVER THE INPUT: true; the input reads as it did. -/
def dagStandsSpec : ChangeSpec := { name := "dagStands", fn := fun _ => fun
  | [d] => { results := [.lit (.bool true)], args := [d] }
  | _ => none }
def dagStandsRow : OpenClaim := { program := "ytoapldhadeoeiaagreat", sum := "beaa069322c1eca400f72b3c807997df9d2f926ddead1a7466c2edb0eff91735", func := "confluence/confluencelaw08.DagStands", spec := "dagStands", unfollowed := true, recurses := true, plainKeys := false, apart := false }
def DagStandsSaid : Prop := dagStandsRow.holds Tryz.pinned (OpenSpec.ofChange dagStandsSpec)

/-- ITS FALSE NEIGHBOUR: 'it returns false'. Refute it at one input. -/
def dagStandsWrong : ChangeSpec := { name := "dagStands", fn := fun _ => fun
  | [d] => { results := [.lit (.bool false)], args := [d] }
  | _ => none }
def DagStandsWrongFalsely : Prop := dagStandsRow.holds Tryz.pinned (OpenSpec.ofChange dagStandsWrong)

/- THE SECOND FORM. 'bulk': how many values and letters a reading holds, each counted each time it is reached (what is shared counts as often as it is met; a slice's spare places count too). A statement '..UptoSaid' is the law's where the arguments, and the package variables that the reading takes, are together of bulk at most 1048576: NARROWER than '..Said'. Prove '..Said' where nothing that the law and all that it calls make is longer than what came in: it says more and counts as full. Else prove '..UptoSaid'. A law counts once. -/
mutual
def uptoBulk {H : Type} : DataW H → Nat
  | .lit (.string bytes) => bytes.length + 1
  | .lit _ => 1
  | .nil => 1
  | .ptr d => uptoBulk d + 1
  | .slice elems spare => uptoBulkAll elems + uptoBulkAll spare + 1
  | .agg parts => uptoBulkAll parts + 1
  | .iface _ d => uptoBulk d + 1
  | .map entries => uptoBulkEntries entries + 1
  | .held _ => 1
def uptoBulkAll {H : Type} : List (DataW H) → Nat
  | [] => 0
  | d :: r => uptoBulk d + uptoBulkAll r
def uptoBulkEntries {H : Type} : List (Lit × DataW H) → Nat
  | [] => 0
  | x :: r => uptoBulkEntry x + uptoBulkEntries r
def uptoBulkEntry {H : Type} : Lit × DataW H → Nat
  | (.string bytes, d) => bytes.length + uptoBulk d + 1
  | (_, d) => uptoBulk d + 1
 end
def uptoSmall : (H : Type) → List (DataW H) → Bool := fun _ ds => decide (uptoBulkAll ds ≤ 1048576)
def OpenSpec.upto (s : _root_.Go.ChangeSpec) : _root_.Go.OpenSpec := { _root_.Go.OpenSpec.ofChange s with cond := some uptoSmall }

/-- 'confluencelaw08.DagBases', WHERE WHAT IT READS IS OF BULK AT MOST 1048576: true; the input reads as it did. -/
def dagBasesUptoRow : OpenClaim := { program := "ytoapldhadeoeiaagreat", sum := "beaa069322c1eca400f72b3c807997df9d2f926ddead1a7466c2edb0eff91735", func := "confluence/confluencelaw08.DagBases", spec := "dagBases", unfollowed := true, recurses := true, plainKeys := false, apart := false, narrowed := true }
def DagBasesUptoSaid : Prop := dagBasesUptoRow.holds Tryz.pinned (OpenSpec.upto dagBasesSpec)

/-- 'confluencelaw08.DagMeets', WHERE WHAT IT READS IS OF BULK AT MOST 1048576: true; the input reads as it did. -/
def dagMeetsUptoRow : OpenClaim := { program := "ytoapldhadeoeiaagreat", sum := "beaa069322c1eca400f72b3c807997df9d2f926ddead1a7466c2edb0eff91735", func := "confluence/confluencelaw08.DagMeets", spec := "dagMeets", unfollowed := true, recurses := true, plainKeys := false, apart := false, narrowed := true }
def DagMeetsUptoSaid : Prop := dagMeetsUptoRow.holds Tryz.pinned (OpenSpec.upto dagMeetsSpec)

/-- 'confluencelaw08.DagGets', WHERE WHAT IT READS IS OF BULK AT MOST 1048576: true; the input reads as it did. -/
def dagGetsUptoRow : OpenClaim := { program := "ytoapldhadeoeiaagreat", sum := "beaa069322c1eca400f72b3c807997df9d2f926ddead1a7466c2edb0eff91735", func := "confluence/confluencelaw08.DagGets", spec := "dagGets", unfollowed := true, recurses := true, plainKeys := false, apart := false, narrowed := true }
def DagGetsUptoSaid : Prop := dagGetsUptoRow.holds Tryz.pinned (OpenSpec.upto dagGetsSpec)

/-- 'confluencelaw08.DagCloses', WHERE WHAT IT READS IS OF BULK AT MOST 1048576: true; the input reads as it did. -/
def dagClosesUptoRow : OpenClaim := { program := "ytoapldhadeoeiaagreat", sum := "beaa069322c1eca400f72b3c807997df9d2f926ddead1a7466c2edb0eff91735", func := "confluence/confluencelaw08.DagCloses", spec := "dagCloses", unfollowed := true, recurses := true, plainKeys := false, apart := false, narrowed := true }
def DagClosesUptoSaid : Prop := dagClosesUptoRow.holds Tryz.pinned (OpenSpec.upto dagClosesSpec)

/-- 'confluencelaw08.DagStands', WHERE WHAT IT READS IS OF BULK AT MOST 1048576: true; the input reads as it did. -/
def dagStandsUptoRow : OpenClaim := { program := "ytoapldhadeoeiaagreat", sum := "beaa069322c1eca400f72b3c807997df9d2f926ddead1a7466c2edb0eff91735", func := "confluence/confluencelaw08.DagStands", spec := "dagStands", unfollowed := true, recurses := true, plainKeys := false, apart := false, narrowed := true }
def DagStandsUptoSaid : Prop := dagStandsUptoRow.holds Tryz.pinned (OpenSpec.upto dagStandsSpec)

end Rows
end Go.Proofs.YtoapldhadeoeiaaGreat
