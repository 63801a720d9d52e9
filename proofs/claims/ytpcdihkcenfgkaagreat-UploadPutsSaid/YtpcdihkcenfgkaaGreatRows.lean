/-
  No cell of these rows narrows 'for every input' (looked for: loops, veiled, ifaces, maps, wideKeys, modest, calm, conditions, laid).
  DERIVED. THE GIVEN ROWS OF THIS SEAT. 4 by the template 'for every input the law returns true; each argument reads behind the call as it read before'; 0 by the template 'total and deterministic' (their statements: YtpcdihkcenfgkaaGreatTotals.lean).
  GIVEN WITH THE SEED: the statements are not yours to turn. If you find one false, say at which input.
  Laid BY PROGRAM, IN A SANDBOX (cutbox-rows.mjs): the forced cells as the released guide's own fill.sh prints them over the translation 6a557a287a4ea24a… (all of the seat's roots in one cut). By AI agents, Wed Nov 11 2026. No macro, syntax, notation, axiom, sorry.
-/
import Derived.Test.YtpcdihkcenfgkaaGreatChecked
import GoSem.Claim
import GoSem.ClaimJoined
import GoSem.ClaimMapViews
import Derived.JoinedTies
import Derived.KernelRfl
namespace Go.Proofs.YtpcdihkcenfgkaaGreat
/- THE CELL 'sum', in the pinned program and in every row, IS THE sha256 OF THE DUMP (.gsa) THAT YtpcdihkcenfgkaaGreatProg.lean LOADS. Nothing in Lean hashes anything: it is a label: what it is worth is what the hold of that sum in a sandbox is worth. -/
noncomputable def Tryz.pinned : Pinned := { name := "ytpcdihkcenfgkaagreat", sum := "6a557a287a4ea24adc61de728a91631ea72a7f5f30786b5e825acc91e78cf327", checked := Tryz.checked }
namespace Rows
def none {H : Type} : Left H := { results := [], args := [] }

/-- 'confluencelaw18.UploadOrders': WHATEVER THE INPUT: true; the input reads as it did. -/
def uploadOrdersSpec : ChangeSpec := { name := "uploadOrders", fn := fun _ => fun
  | [d1, d2, d3] => { results := [.lit (.bool true)], args := [d1, d2, d3] }
  | _ => none }
def uploadOrdersRow : OpenClaim := { program := "ytpcdihkcenfgkaagreat", sum := "6a557a287a4ea24adc61de728a91631ea72a7f5f30786b5e825acc91e78cf327", func := "confluence/confluencelaw18.UploadOrders", spec := "uploadOrders", unfollowed := true, recurses := true, plainKeys := false, apart := false }
def UploadOrdersSaid : Prop := uploadOrdersRow.holds Tryz.pinned (OpenSpec.ofChange uploadOrdersSpec)

/-- ITS FALSE NEIGHBOUR: 'it returns false'. Refute it at one input. -/
def uploadOrdersWrong : ChangeSpec := { name := "uploadOrders", fn := fun _ => fun
  | [d1, d2, d3] => { results := [.lit (.bool false)], args := [d1, d2, d3] }
  | _ => none }
def UploadOrdersWrongFalsely : Prop := uploadOrdersRow.holds Tryz.pinned (OpenSpec.ofChange uploadOrdersWrong)

/-- 'confluencelaw18.UploadLacks': WHATEVER THE INPUT: true; the input reads as it did. -/
def uploadLacksSpec : ChangeSpec := { name := "uploadLacks", fn := fun _ => fun
  | [d1, d2] => { results := [.lit (.bool true)], args := [d1, d2] }
  | _ => none }
def uploadLacksRow : OpenClaim := { program := "ytpcdihkcenfgkaagreat", sum := "6a557a287a4ea24adc61de728a91631ea72a7f5f30786b5e825acc91e78cf327", func := "confluence/confluencelaw18.UploadLacks", spec := "uploadLacks", unfollowed := true, recurses := true, plainKeys := false, apart := false }
def UploadLacksSaid : Prop := uploadLacksRow.holds Tryz.pinned (OpenSpec.ofChange uploadLacksSpec)

/-- ITS FALSE NEIGHBOUR: 'it returns false'. Refute it at one input. -/
def uploadLacksWrong : ChangeSpec := { name := "uploadLacks", fn := fun _ => fun
  | [d1, d2] => { results := [.lit (.bool false)], args := [d1, d2] }
  | _ => none }
def UploadLacksWrongFalsely : Prop := uploadLacksRow.holds Tryz.pinned (OpenSpec.ofChange uploadLacksWrong)

/-- 'confluencelaw18.UploadLinks': WHATEVER THE INPUT: true; the input reads as it did. -/
def uploadLinksSpec : ChangeSpec := { name := "uploadLinks", fn := fun _ => fun
  | [d1, d2] => { results := [.lit (.bool true)], args := [d1, d2] }
  | _ => none }
def uploadLinksRow : OpenClaim := { program := "ytpcdihkcenfgkaagreat", sum := "6a557a287a4ea24adc61de728a91631ea72a7f5f30786b5e825acc91e78cf327", func := "confluence/confluencelaw18.UploadLinks", spec := "uploadLinks", unfollowed := true, recurses := true, plainKeys := false, apart := false }
def UploadLinksSaid : Prop := uploadLinksRow.holds Tryz.pinned (OpenSpec.ofChange uploadLinksSpec)

/-- ITS FALSE NEIGHBOUR: 'it returns false'. Refute it at one input. -/
def uploadLinksWrong : ChangeSpec := { name := "uploadLinks", fn := fun _ => fun
  | [d1, d2] => { results := [.lit (.bool false)], args := [d1, d2] }
  | _ => none }
def UploadLinksWrongFalsely : Prop := uploadLinksRow.holds Tryz.pinned (OpenSpec.ofChange uploadLinksWrong)

/-- 'confluencelaw18.UploadPuts': WHATEVER THE INPUT: true; the input reads as it did. -/
def uploadPutsSpec : ChangeSpec := { name := "uploadPuts", fn := fun _ => fun
  | [d1, d2, d3] => { results := [.lit (.bool true)], args := [d1, d2, d3] }
  | _ => none }
def uploadPutsRow : OpenClaim := { program := "ytpcdihkcenfgkaagreat", sum := "6a557a287a4ea24adc61de728a91631ea72a7f5f30786b5e825acc91e78cf327", func := "confluence/confluencelaw18.UploadPuts", spec := "uploadPuts", unfollowed := true, recurses := true, plainKeys := false, apart := false }
def UploadPutsSaid : Prop := uploadPutsRow.holds Tryz.pinned (OpenSpec.ofChange uploadPutsSpec)

/-- ITS FALSE NEIGHBOUR: 'it returns false'. Refute it at one input. -/
def uploadPutsWrong : ChangeSpec := { name := "uploadPuts", fn := fun _ => fun
  | [d1, d2, d3] => { results := [.lit (.bool false)], args := [d1, d2, d3] }
  | _ => none }
def UploadPutsWrongFalsely : Prop := uploadPutsRow.holds Tryz.pinned (OpenSpec.ofChange uploadPutsWrong)

/- THE SECOND FORM. 'bulk': how many values and letters a reading holds, each counted each time it is reached (what is shared counts as often as it is met; a slice's spare places count too). A statement '..UptoSaid' is the law's where the arguments, and the package variables that the reading takes, are together of bulk at most 1048576: NARROWER than '..Said'. Prove '..Said' where nothing that the law and all that it calls make is longer than what came in: it says more and counts as full. Else prove '..UptoSaid'. A law counts once. -/
mutual
def uptoBulk {H : Type} : DataW H → Nat
  | .lit (.string bytes) => bytes.length + 1
  | .lit _ => 1
  | .nil => 1
  | .ptr d => uptoBulk d + 1
  | .slice elems spare => uptoBulkAll elems + uptoBulkAll spare + 1
  | .agg parts => uptoBulkAll parts + 1
  | .iface _ d => uptoBulk d + 1
  | .map entries => uptoBulkEntries entries + 1
  | .held _ => 1
def uptoBulkAll {H : Type} : List (DataW H) → Nat
  | [] => 0
  | d :: r => uptoBulk d + uptoBulkAll r
def uptoBulkEntries {H : Type} : List (Lit × DataW H) → Nat
  | [] => 0
  | x :: r => uptoBulkEntry x + uptoBulkEntries r
def uptoBulkEntry {H : Type} : Lit × DataW H → Nat
  | (.string bytes, d) => bytes.length + uptoBulk d + 1
  | (_, d) => uptoBulk d + 1
 end
def uptoSmall : (H : Type) → List (DataW H) → Bool := fun _ ds => decide (uptoBulkAll ds ≤ 1048576)
def OpenSpec.upto (s : _root_.Go.ChangeSpec) : _root_.Go.OpenSpec := { _root_.Go.OpenSpec.ofChange s with cond := some uptoSmall }

/-- 'confluencelaw18.UploadOrders', WHERE WHAT IT READS IS OF BULK AT MOST 1048576: true; the input reads as it did. -/
def uploadOrdersUptoRow : OpenClaim := { program := "ytpcdihkcenfgkaagreat", sum := "6a557a287a4ea24adc61de728a91631ea72a7f5f30786b5e825acc91e78cf327", func := "confluence/confluencelaw18.UploadOrders", spec := "uploadOrders", unfollowed := true, recurses := true, plainKeys := false, apart := false, narrowed := true }
def UploadOrdersUptoSaid : Prop := uploadOrdersUptoRow.holds Tryz.pinned (OpenSpec.upto uploadOrdersSpec)

/-- 'confluencelaw18.UploadLacks', WHERE WHAT IT READS IS OF BULK AT MOST 1048576: true; the input reads as it did. -/
def uploadLacksUptoRow : OpenClaim := { program := "ytpcdihkcenfgkaagreat", sum := "6a557a287a4ea24adc61de728a91631ea72a7f5f30786b5e825acc91e78cf327", func := "confluence/confluencelaw18.UploadLacks", spec := "uploadLacks", unfollowed := true, recurses := true, plainKeys := false, apart := false, narrowed := true }
def UploadLacksUptoSaid : Prop := uploadLacksUptoRow.holds Tryz.pinned (OpenSpec.upto uploadLacksSpec)

/-- 'confluencelaw18.UploadLinks', WHERE WHAT IT READS IS OF BULK AT MOST 1048576: true; the input reads as it did. -/
def uploadLinksUptoRow : OpenClaim := { program := "ytpcdihkcenfgkaagreat", sum := "6a557a287a4ea24adc61de728a91631ea72a7f5f30786b5e825acc91e78cf327", func := "confluence/confluencelaw18.UploadLinks", spec := "uploadLinks", unfollowed := true, recurses := true, plainKeys := false, apart := false, narrowed := true }
def UploadLinksUptoSaid : Prop := uploadLinksUptoRow.holds Tryz.pinned (OpenSpec.upto uploadLinksSpec)

/-- 'confluencelaw18.UploadPuts', WHERE WHAT IT READS IS OF BULK AT MOST 1048576: true; the input reads as it did. -/
def uploadPutsUptoRow : OpenClaim := { program := "ytpcdihkcenfgkaagreat", sum := "6a557a287a4ea24adc61de728a91631ea72a7f5f30786b5e825acc91e78cf327", func := "confluence/confluencelaw18.UploadPuts", spec := "uploadPuts", unfollowed := true, recurses := true, plainKeys := false, apart := false, narrowed := true }
def UploadPutsUptoSaid : Prop := uploadPutsUptoRow.holds Tryz.pinned (OpenSpec.upto uploadPutsSpec)

end Rows
end Go.Proofs.YtpcdihkcenfgkaaGreat
