/-
  No cell of these rows narrows 'for every input' (looked for: loops, veiled, ifaces, maps, wideKeys, modest, calm, conditions, laid).
  DERIVED. THE GIVEN ROWS OF THIS SEAT. 7 by the template 'for every input the law returns true; each argument reads behind the call as it read before'; 0 by the template 'total and deterministic' (their statements: YtoldbdocgimpnaaTotals.lean).
  GIVEN WITH THE SEED: the statements are not yours to turn. If you find one false, say at which input.
  Laid BY PROGRAM, IN A SANDBOX (cutbox-rows.mjs): the forced cells as the released guide's own fill.sh prints them over the translation 87bda2f5fd0ff162… (all of the seat's roots in one cut). By AI agents, Wed Nov 11 2026. No macro, syntax, notation, axiom, sorry.
-/
import Derived.Test.YtoldbdocgimpnaaChecked
import GoSem.Claim
import GoSem.ClaimJoined
import GoSem.ClaimMapViews
import Derived.JoinedTies
import Derived.KernelRfl
namespace Go.Proofs.Ytoldbdocgimpnaa
/- THE CELL 'sum', in the pinned program and in every row, IS THE sha256 OF THE DUMP (.gsa) THAT YtoldbdocgimpnaaProg.lean LOADS. Nothing in Lean hashes anything: it is a label: what it is worth is what the hold of that sum in a sandbox is worth. -/
noncomputable def Try.pinned : Pinned := { name := "ytoldbdocgimpnaa", sum := "87bda2f5fd0ff162c85fa57ccbd095e6f9fa3c6117bb03d301757c3f526babed", checked := Try.checked }
namespace Rows
def none {H : Type} : Left H := { results := [], args := [] }

/-- 'confluencelaw02.DiskLatest': WHATEVER THE INPUT: true; the input reads as it did. -/
def diskLatestSpec : ChangeSpec := { name := "diskLatest", fn := fun _ => fun
  | [d] => { results := [.lit (.bool true)], args := [d] }
  | _ => none }
def diskLatestRow : OpenClaim := { program := "ytoldbdocgimpnaa", sum := "87bda2f5fd0ff162c85fa57ccbd095e6f9fa3c6117bb03d301757c3f526babed", func := "confluence/confluencelaw02.DiskLatest", spec := "diskLatest", unfollowed := true, recurses := true, apart := false }
def DiskLatestSaid : Prop := diskLatestRow.holds Try.pinned (OpenSpec.ofChange diskLatestSpec)

/-- ITS FALSE NEIGHBOUR: 'it returns false'. Refute it at one input. -/
def diskLatestWrong : ChangeSpec := { name := "diskLatest", fn := fun _ => fun
  | [d] => { results := [.lit (.bool false)], args := [d] }
  | _ => none }
def DiskLatestWrongFalsely : Prop := diskLatestRow.holds Try.pinned (OpenSpec.ofChange diskLatestWrong)

/-- 'confluencelaw02.DiskGoes': WHATEVER THE INPUT: true; the input reads as it did. -/
def diskGoesSpec : ChangeSpec := { name := "diskGoes", fn := fun _ => fun
  | [d1, d2] => { results := [.lit (.bool true)], args := [d1, d2] }
  | _ => none }
def diskGoesRow : OpenClaim := { program := "ytoldbdocgimpnaa", sum := "87bda2f5fd0ff162c85fa57ccbd095e6f9fa3c6117bb03d301757c3f526babed", func := "confluence/confluencelaw02.DiskGoes", spec := "diskGoes", unfollowed := true, recurses := true, apart := false }
def DiskGoesSaid : Prop := diskGoesRow.holds Try.pinned (OpenSpec.ofChange diskGoesSpec)

/-- ITS FALSE NEIGHBOUR: 'it returns false'. Refute it at one input. -/
def diskGoesWrong : ChangeSpec := { name := "diskGoes", fn := fun _ => fun
  | [d1, d2] => { results := [.lit (.bool false)], args := [d1, d2] }
  | _ => none }
def DiskGoesWrongFalsely : Prop := diskGoesRow.holds Try.pinned (OpenSpec.ofChange diskGoesWrong)

/-- 'confluencelaw02.DiskFuse': WHATEVER THE INPUT: true; the input reads as it did. -/
def diskFuseSpec : ChangeSpec := { name := "diskFuse", fn := fun _ => fun
  | [d1, d2, d3] => { results := [.lit (.bool true)], args := [d1, d2, d3] }
  | _ => none }
def diskFuseRow : OpenClaim := { program := "ytoldbdocgimpnaa", sum := "87bda2f5fd0ff162c85fa57ccbd095e6f9fa3c6117bb03d301757c3f526babed", func := "confluence/confluencelaw02.DiskFuse", spec := "diskFuse", unfollowed := true, recurses := true, apart := false }
def DiskFuseSaid : Prop := diskFuseRow.holds Try.pinned (OpenSpec.ofChange diskFuseSpec)

/-- ITS FALSE NEIGHBOUR: 'it returns false'. Refute it at one input. -/
def diskFuseWrong : ChangeSpec := { name := "diskFuse", fn := fun _ => fun
  | [d1, d2, d3] => { results := [.lit (.bool false)], args := [d1, d2, d3] }
  | _ => none }
def DiskFuseWrongFalsely : Prop := diskFuseRow.holds Try.pinned (OpenSpec.ofChange diskFuseWrong)

/-- 'confluencelaw02.DiskFault': WHATEVER THE INPUT: true; the input reads as it did. -/
def diskFaultSpec : ChangeSpec := { name := "diskFault", fn := fun _ => fun
  | [d1, d2, d3] => { results := [.lit (.bool true)], args := [d1, d2, d3] }
  | _ => none }
def diskFaultRow : OpenClaim := { program := "ytoldbdocgimpnaa", sum := "87bda2f5fd0ff162c85fa57ccbd095e6f9fa3c6117bb03d301757c3f526babed", func := "confluence/confluencelaw02.DiskFault", spec := "diskFault", unfollowed := true, recurses := true, apart := false }
def DiskFaultSaid : Prop := diskFaultRow.holds Try.pinned (OpenSpec.ofChange diskFaultSpec)

/-- ITS FALSE NEIGHBOUR: 'it returns false'. Refute it at one input. -/
def diskFaultWrong : ChangeSpec := { name := "diskFault", fn := fun _ => fun
  | [d1, d2, d3] => { results := [.lit (.bool false)], args := [d1, d2, d3] }
  | _ => none }
def DiskFaultWrongFalsely : Prop := diskFaultRow.holds Try.pinned (OpenSpec.ofChange diskFaultWrong)

/-- 'confluencelaw02.DiskLasts': WHATEVER THE INPUT: true; the input reads as it did. -/
def diskLastsSpec : ChangeSpec := { name := "diskLasts", fn := fun _ => fun
  | [d1, d2] => { results := [.lit (.bool true)], args := [d1, d2] }
  | _ => none }
def diskLastsRow : OpenClaim := { program := "ytoldbdocgimpnaa", sum := "87bda2f5fd0ff162c85fa57ccbd095e6f9fa3c6117bb03d301757c3f526babed", func := "confluence/confluencelaw02.DiskLasts", spec := "diskLasts", unfollowed := true, recurses := true, apart := false }
def DiskLastsSaid : Prop := diskLastsRow.holds Try.pinned (OpenSpec.ofChange diskLastsSpec)

/-- ITS FALSE NEIGHBOUR: 'it returns false'. Refute it at one input. -/
def diskLastsWrong : ChangeSpec := { name := "diskLasts", fn := fun _ => fun
  | [d1, d2] => { results := [.lit (.bool false)], args := [d1, d2] }
  | _ => none }
def DiskLastsWrongFalsely : Prop := diskLastsRow.holds Try.pinned (OpenSpec.ofChange diskLastsWrong)

/-- 'confluencelaw02.DiskTwins': WHATEVER THE INPUT: true; the input reads as it did. -/
def diskTwinsSpec : ChangeSpec := { name := "diskTwins", fn := fun _ => fun
  | [d1, d2, d3] => { results := [.lit (.bool true)], args := [d1, d2, d3] }
  | _ => none }
def diskTwinsRow : OpenClaim := { program := "ytoldbdocgimpnaa", sum := "87bda2f5fd0ff162c85fa57ccbd095e6f9fa3c6117bb03d301757c3f526babed", func := "confluence/confluencelaw02.DiskTwins", spec := "diskTwins", unfollowed := true, recurses := true, apart := false }
def DiskTwinsSaid : Prop := diskTwinsRow.holds Try.pinned (OpenSpec.ofChange diskTwinsSpec)

/-- ITS FALSE NEIGHBOUR: 'it returns false'. Refute it at one input. -/
def diskTwinsWrong : ChangeSpec := { name := "diskTwins", fn := fun _ => fun
  | [d1, d2, d3] => { results := [.lit (.bool false)], args := [d1, d2, d3] }
  | _ => none }
def DiskTwinsWrongFalsely : Prop := diskTwinsRow.holds Try.pinned (OpenSpec.ofChange diskTwinsWrong)

/-- 'confluencelaw02.DiskNil': WHATEVER THE INPUT: true; the input reads as it did. -/
def diskNilSpec : ChangeSpec := { name := "diskNil", fn := fun _ => fun
  | [d] => { results := [.lit (.bool true)], args := [d] }
  | _ => none }
def diskNilRow : OpenClaim := { program := "ytoldbdocgimpnaa", sum := "87bda2f5fd0ff162c85fa57ccbd095e6f9fa3c6117bb03d301757c3f526babed", func := "confluence/confluencelaw02.DiskNil", spec := "diskNil", unfollowed := true, recurses := true, apart := false }
def DiskNilSaid : Prop := diskNilRow.holds Try.pinned (OpenSpec.ofChange diskNilSpec)

/-- ITS FALSE NEIGHBOUR: 'it returns false'. Refute it at one input. -/
def diskNilWrong : ChangeSpec := { name := "diskNil", fn := fun _ => fun
  | [d] => { results := [.lit (.bool false)], args := [d] }
  | _ => none }
def DiskNilWrongFalsely : Prop := diskNilRow.holds Try.pinned (OpenSpec.ofChange diskNilWrong)

/- THE SECOND FORM. 'bulk': how many values and letters a reading holds, each counted each time it is reached (what is shared counts as often as it is met; a slice's spare places count too). A statement '..UptoSaid' is the law's where the arguments, and the package variables that the reading takes, are together of bulk at most 1048576: NARROWER than '..Said'. Prove '..Said' where nothing that the law and all that it calls make is longer than what came in: it says more and counts as full. Else prove '..UptoSaid'. A law counts once. -/
mutual
def uptoBulk {H : Type} : DataW H → Nat
  | .lit (.string bytes) => bytes.length + 1
  | .lit _ => 1
  | .nil => 1
  | .ptr d => uptoBulk d + 1
  | .slice elems spare => uptoBulkAll elems + uptoBulkAll spare + 1
  | .agg parts => uptoBulkAll parts + 1
  | .iface _ d => uptoBulk d + 1
  | .map entries => uptoBulkEntries entries + 1
  | .held _ => 1
def uptoBulkAll {H : Type} : List (DataW H) → Nat
  | [] => 0
  | d :: r => uptoBulk d + uptoBulkAll r
def uptoBulkEntries {H : Type} : List (Lit × DataW H) → Nat
  | [] => 0
  | x :: r => uptoBulkEntry x + uptoBulkEntries r
def uptoBulkEntry {H : Type} : Lit × DataW H → Nat
  | (.string bytes, d) => bytes.length + uptoBulk d + 1
  | (_, d) => uptoBulk d + 1
 end
def uptoSmall : (H : Type) → List (DataW H) → Bool := fun _ ds => decide (uptoBulkAll ds ≤ 1048576)
def OpenSpec.upto (s : _root_.Go.ChangeSpec) : _root_.Go.OpenSpec := { _root_.Go.OpenSpec.ofChange s with cond := some uptoSmall }

/-- 'confluencelaw02.DiskLatest', WHERE WHAT IT READS IS OF BULK AT MOST 1048576: true; the input reads as it did. -/
def diskLatestUptoRow : OpenClaim := { program := "ytoldbdocgimpnaa", sum := "87bda2f5fd0ff162c85fa57ccbd095e6f9fa3c6117bb03d301757c3f526babed", func := "confluence/confluencelaw02.DiskLatest", spec := "diskLatest", unfollowed := true, recurses := true, apart := false, narrowed := true }
def DiskLatestUptoSaid : Prop := diskLatestUptoRow.holds Try.pinned (OpenSpec.upto diskLatestSpec)

/-- 'confluencelaw02.DiskGoes', WHERE WHAT IT READS IS OF BULK AT MOST 1048576: true; the input reads as it did. -/
def diskGoesUptoRow : OpenClaim := { program := "ytoldbdocgimpnaa", sum := "87bda2f5fd0ff162c85fa57ccbd095e6f9fa3c6117bb03d301757c3f526babed", func := "confluence/confluencelaw02.DiskGoes", spec := "diskGoes", unfollowed := true, recurses := true, apart := false, narrowed := true }
def DiskGoesUptoSaid : Prop := diskGoesUptoRow.holds Try.pinned (OpenSpec.upto diskGoesSpec)

/-- 'confluencelaw02.DiskFuse', WHERE WHAT IT READS IS OF BULK AT MOST 1048576: true; the input reads as it did. -/
def diskFuseUptoRow : OpenClaim := { program := "ytoldbdocgimpnaa", sum := "87bda2f5fd0ff162c85fa57ccbd095e6f9fa3c6117bb03d301757c3f526babed", func := "confluence/confluencelaw02.DiskFuse", spec := "diskFuse", unfollowed := true, recurses := true, apart := false, narrowed := true }
def DiskFuseUptoSaid : Prop := diskFuseUptoRow.holds Try.pinned (OpenSpec.upto diskFuseSpec)

/-- 'confluencelaw02.DiskFault', WHERE WHAT IT READS IS OF BULK AT MOST 1048576: true; the input reads as it did. -/
def diskFaultUptoRow : OpenClaim := { program := "ytoldbdocgimpnaa", sum := "87bda2f5fd0ff162c85fa57ccbd095e6f9fa3c6117bb03d301757c3f526babed", func := "confluence/confluencelaw02.DiskFault", spec := "diskFault", unfollowed := true, recurses := true, apart := false, narrowed := true }
def DiskFaultUptoSaid : Prop := diskFaultUptoRow.holds Try.pinned (OpenSpec.upto diskFaultSpec)

/-- 'confluencelaw02.DiskLasts', WHERE WHAT IT READS IS OF BULK AT MOST 1048576: true; the input reads as it did. -/
def diskLastsUptoRow : OpenClaim := { program := "ytoldbdocgimpnaa", sum := "87bda2f5fd0ff162c85fa57ccbd095e6f9fa3c6117bb03d301757c3f526babed", func := "confluence/confluencelaw02.DiskLasts", spec := "diskLasts", unfollowed := true, recurses := true, apart := false, narrowed := true }
def DiskLastsUptoSaid : Prop := diskLastsUptoRow.holds Try.pinned (OpenSpec.upto diskLastsSpec)

/-- 'confluencelaw02.DiskTwins', WHERE WHAT IT READS IS OF BULK AT MOST 1048576: true; the input reads as it did. -/
def diskTwinsUptoRow : OpenClaim := { program := "ytoldbdocgimpnaa", sum := "87bda2f5fd0ff162c85fa57ccbd095e6f9fa3c6117bb03d301757c3f526babed", func := "confluence/confluencelaw02.DiskTwins", spec := "diskTwins", unfollowed := true, recurses := true, apart := false, narrowed := true }
def DiskTwinsUptoSaid : Prop := diskTwinsUptoRow.holds Try.pinned (OpenSpec.upto diskTwinsSpec)

/-- 'confluencelaw02.DiskNil', WHERE WHAT IT READS IS OF BULK AT MOST 1048576: true; the input reads as it did. -/
def diskNilUptoRow : OpenClaim := { program := "ytoldbdocgimpnaa", sum := "87bda2f5fd0ff162c85fa57ccbd095e6f9fa3c6117bb03d301757c3f526babed", func := "confluence/confluencelaw02.DiskNil", spec := "diskNil", unfollowed := true, recurses := true, apart := false, narrowed := true }
def DiskNilUptoSaid : Prop := diskNilUptoRow.holds Try.pinned (OpenSpec.upto diskNilSpec)

end Rows
end Go.Proofs.Ytoldbdocgimpnaa
