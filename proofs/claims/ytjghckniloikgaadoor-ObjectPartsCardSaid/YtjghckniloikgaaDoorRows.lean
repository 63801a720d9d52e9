/-
  NARROWER THAN 'FOR EVERY INPUT', by the rows' own cells (each row's printed sentence says how): ObjectEncodes: laid · ObjectDecodes: laid · ObjectParts: laid · ObjectSame: laid · ObjectBack: laid · ObjectTrees: laid.
  DERIVED. THE GIVEN ROWS OF THIS SEAT. 6 by the template 'for every input the law returns true; each argument reads behind the call as it read before'; 0 by the template 'total and deterministic' (their statements: YtjghckniloikgaaDoorTotals.lean).
  GIVEN WITH THE SEED: the statements are not yours to turn. If you find one false, say at which input.
  Laid BY PROGRAM, IN A SANDBOX (cutbox-rows.mjs): the forced cells as the released guide's own fill.sh prints them over the translation af8cac852823eb54… (all of the seat's roots in one cut). By AI agents, Wed Nov 11 2026. No macro, syntax, notation, axiom, sorry.
-/
import Derived.Test.YtjghckniloikgaaDoorChecked
import GoSem.Claim
import GoSem.ClaimJoined
import GoSem.ClaimMapViews
import Derived.JoinedTies
import Derived.KernelRfl
namespace Go.Proofs.YtjghckniloikgaaDoor
/- THE CELL 'sum', in the pinned program and in every row, IS THE sha256 OF THE DUMP (.gsa) THAT YtjghckniloikgaaDoorProg.lean LOADS. Nothing in Lean hashes anything: it is a label: what it is worth is what the hold of that sum in a sandbox is worth. -/
noncomputable def Tryd.pinned : Pinned := { name := "ytjghckniloikgaadoor", sum := "af8cac852823eb543d1a1fe9ac7d744cb785aa7096c82513ce22d2ea092086a0", checked := Tryd.checked }
namespace Rows
def none {H : Type} : Left H := { results := [], args := [] }

/- WHAT THE LISTED PACKAGE-LEVEL VARIABLES READ AS WHEN THE CALL BEGINS. Each datum BY PROGRAM (the guide's laid-datum.mjs) off the statement by which the dump's own 'gosem.cut.vars' lays the variable. In a bare row this is a premise. The card (YtjghckniloikgaaDoorCards.lean) ties it to the program's text. -/
def laid_confluence_sha_roots {H : Type} : DataW H := .agg [.lit (.int .u32 1116352408), .lit (.int .u32 1899447441), .lit (.int .u32 3049323471), .lit (.int .u32 3921009573), .lit (.int .u32 961987163), .lit (.int .u32 1508970993), .lit (.int .u32 2453635748), .lit (.int .u32 2870763221), .lit (.int .u32 3624381080), .lit (.int .u32 310598401), .lit (.int .u32 607225278), .lit (.int .u32 1426881987), .lit (.int .u32 1925078388), .lit (.int .u32 2162078206), .lit (.int .u32 2614888103), .lit (.int .u32 3248222580), .lit (.int .u32 3835390401), .lit (.int .u32 4022224774), .lit (.int .u32 264347078), .lit (.int .u32 604807628), .lit (.int .u32 770255983), .lit (.int .u32 1249150122), .lit (.int .u32 1555081692), .lit (.int .u32 1996064986), .lit (.int .u32 2554220882), .lit (.int .u32 2821834349), .lit (.int .u32 2952996808), .lit (.int .u32 3210313671), .lit (.int .u32 3336571891), .lit (.int .u32 3584528711), .lit (.int .u32 113926993), .lit (.int .u32 338241895), .lit (.int .u32 666307205), .lit (.int .u32 773529912), .lit (.int .u32 1294757372), .lit (.int .u32 1396182291), .lit (.int .u32 1695183700), .lit (.int .u32 1986661051), .lit (.int .u32 2177026350), .lit (.int .u32 2456956037), .lit (.int .u32 2730485921), .lit (.int .u32 2820302411), .lit (.int .u32 3259730800), .lit (.int .u32 3345764771), .lit (.int .u32 3516065817), .lit (.int .u32 3600352804), .lit (.int .u32 4094571909), .lit (.int .u32 275423344), .lit (.int .u32 430227734), .lit (.int .u32 506948616), .lit (.int .u32 659060556), .lit (.int .u32 883997877), .lit (.int .u32 958139571), .lit (.int .u32 1322822218), .lit (.int .u32 1537002063), .lit (.int .u32 1747873779), .lit (.int .u32 1955562222), .lit (.int .u32 2024104815), .lit (.int .u32 2227730452), .lit (.int .u32 2361852424), .lit (.int .u32 2428436474), .lit (.int .u32 2756734187), .lit (.int .u32 3204031479), .lit (.int .u32 3329325298)]

/-- 'confluencelaw06.ObjectEncodes': WHATEVER THE INPUT: true; the input reads as it did. -/
def objectEncodesSpec : ChangeSpec := { name := "objectEncodes", fn := fun _ => fun
  | [d] => { results := [.lit (.bool true)], args := [d] }
  | _ => none }
def objectEncodesRow : OpenClaim := { program := "ytjghckniloikgaadoor", sum := "af8cac852823eb543d1a1fe9ac7d744cb785aa7096c82513ce22d2ea092086a0", func := "confluence/confluencelaw06.ObjectEncodes", spec := "objectEncodes", unfollowed := true, recurses := true, named := ["confluence/sha.roots"], plainKeys := false, apart := false, laid := [("confluence/sha.roots", laid_confluence_sha_roots)] }
def ObjectEncodesSaid : Prop := objectEncodesRow.holds Tryd.pinned (OpenSpec.ofChange objectEncodesSpec)

/-- ITS FALSE NEIGHBOUR: 'it returns false'. Refute it at one input. -/
def objectEncodesWrong : ChangeSpec := { name := "objectEncodes", fn := fun _ => fun
  | [d] => { results := [.lit (.bool false)], args := [d] }
  | _ => none }
def ObjectEncodesWrongFalsely : Prop := objectEncodesRow.holds Tryd.pinned (OpenSpec.ofChange objectEncodesWrong)

/-- 'confluencelaw06.ObjectDecodes': WHATEVER THE INPUT: true; the input reads as it did. -/
def objectDecodesSpec : ChangeSpec := { name := "objectDecodes", fn := fun _ => fun
  | [d] => { results := [.lit (.bool true)], args := [d] }
  | _ => none }
def objectDecodesRow : OpenClaim := { program := "ytjghckniloikgaadoor", sum := "af8cac852823eb543d1a1fe9ac7d744cb785aa7096c82513ce22d2ea092086a0", func := "confluence/confluencelaw06.ObjectDecodes", spec := "objectDecodes", unfollowed := true, recurses := true, named := ["confluence/sha.roots"], plainKeys := false, apart := false, laid := [("confluence/sha.roots", laid_confluence_sha_roots)] }
def ObjectDecodesSaid : Prop := objectDecodesRow.holds Tryd.pinned (OpenSpec.ofChange objectDecodesSpec)

/-- ITS FALSE NEIGHBOUR: 'it returns false'. Refute it at one input. -/
def objectDecodesWrong : ChangeSpec := { name := "objectDecodes", fn := fun _ => fun
  | [d] => { results := [.lit (.bool false)], args := [d] }
  | _ => none }
def ObjectDecodesWrongFalsely : Prop := objectDecodesRow.holds Tryd.pinned (OpenSpec.ofChange objectDecodesWrong)

/-- 'confluencelaw06.ObjectParts': WHATEVER THE INPUT: true; the input reads as it did. -/
def objectPartsSpec : ChangeSpec := { name := "objectParts", fn := fun _ => fun
  | [d] => { results := [.lit (.bool true)], args := [d] }
  | _ => none }
def objectPartsRow : OpenClaim := { program := "ytjghckniloikgaadoor", sum := "af8cac852823eb543d1a1fe9ac7d744cb785aa7096c82513ce22d2ea092086a0", func := "confluence/confluencelaw06.ObjectParts", spec := "objectParts", unfollowed := true, recurses := true, named := ["confluence/sha.roots"], plainKeys := false, apart := false, laid := [("confluence/sha.roots", laid_confluence_sha_roots)] }
def ObjectPartsSaid : Prop := objectPartsRow.holds Tryd.pinned (OpenSpec.ofChange objectPartsSpec)

/-- ITS FALSE NEIGHBOUR: 'it returns false'. Refute it at one input. -/
def objectPartsWrong : ChangeSpec := { name := "objectParts", fn := fun _ => fun
  | [d] => { results := [.lit (.bool false)], args := [d] }
  | _ => none }
def ObjectPartsWrongFalsely : Prop := objectPartsRow.holds Tryd.pinned (OpenSpec.ofChange objectPartsWrong)

/-- 'confluencelaw06.ObjectSame': WHATEVER THE INPUT: true; the input reads as it did. -/
def objectSameSpec : ChangeSpec := { name := "objectSame", fn := fun _ => fun
  | [d1, d2] => { results := [.lit (.bool true)], args := [d1, d2] }
  | _ => none }
def objectSameRow : OpenClaim := { program := "ytjghckniloikgaadoor", sum := "af8cac852823eb543d1a1fe9ac7d744cb785aa7096c82513ce22d2ea092086a0", func := "confluence/confluencelaw06.ObjectSame", spec := "objectSame", unfollowed := true, recurses := true, named := ["confluence/sha.roots"], plainKeys := false, apart := false, laid := [("confluence/sha.roots", laid_confluence_sha_roots)] }
def ObjectSameSaid : Prop := objectSameRow.holds Tryd.pinned (OpenSpec.ofChange objectSameSpec)

/-- ITS FALSE NEIGHBOUR: 'it returns false'. Refute it at one input. -/
def objectSameWrong : ChangeSpec := { name := "objectSame", fn := fun _ => fun
  | [d1, d2] => { results := [.lit (.bool false)], args := [d1, d2] }
  | _ => none }
def ObjectSameWrongFalsely : Prop := objectSameRow.holds Tryd.pinned (OpenSpec.ofChange objectSameWrong)

/-- 'confluencelaw06.ObjectBack': WHATEVER THE INPUT: true; the input reads as it did. -/
def objectBackSpec : ChangeSpec := { name := "objectBack", fn := fun _ => fun
  | [d1, d2, d3] => { results := [.lit (.bool true)], args := [d1, d2, d3] }
  | _ => none }
def objectBackRow : OpenClaim := { program := "ytjghckniloikgaadoor", sum := "af8cac852823eb543d1a1fe9ac7d744cb785aa7096c82513ce22d2ea092086a0", func := "confluence/confluencelaw06.ObjectBack", spec := "objectBack", unfollowed := true, recurses := true, named := ["confluence/sha.roots"], plainKeys := false, apart := false, laid := [("confluence/sha.roots", laid_confluence_sha_roots)] }
def ObjectBackSaid : Prop := objectBackRow.holds Tryd.pinned (OpenSpec.ofChange objectBackSpec)

/-- ITS FALSE NEIGHBOUR: 'it returns false'. Refute it at one input. -/
def objectBackWrong : ChangeSpec := { name := "objectBack", fn := fun _ => fun
  | [d1, d2, d3] => { results := [.lit (.bool false)], args := [d1, d2, d3] }
  | _ => none }
def ObjectBackWrongFalsely : Prop := objectBackRow.holds Tryd.pinned (OpenSpec.ofChange objectBackWrong)

/-- 'confluencelaw06.ObjectTrees': WHATEVER THE INPUT: true; the input reads as it did. -/
def objectTreesSpec : ChangeSpec := { name := "objectTrees", fn := fun _ => fun
  | [d] => { results := [.lit (.bool true)], args := [d] }
  | _ => none }
def objectTreesRow : OpenClaim := { program := "ytjghckniloikgaadoor", sum := "af8cac852823eb543d1a1fe9ac7d744cb785aa7096c82513ce22d2ea092086a0", func := "confluence/confluencelaw06.ObjectTrees", spec := "objectTrees", unfollowed := true, recurses := true, named := ["confluence/sha.roots"], plainKeys := false, apart := false, laid := [("confluence/sha.roots", laid_confluence_sha_roots)] }
def ObjectTreesSaid : Prop := objectTreesRow.holds Tryd.pinned (OpenSpec.ofChange objectTreesSpec)

/-- ITS FALSE NEIGHBOUR: 'it returns false'. Refute it at one input. -/
def objectTreesWrong : ChangeSpec := { name := "objectTrees", fn := fun _ => fun
  | [d] => { results := [.lit (.bool false)], args := [d] }
  | _ => none }
def ObjectTreesWrongFalsely : Prop := objectTreesRow.holds Tryd.pinned (OpenSpec.ofChange objectTreesWrong)

/- THE SECOND FORM. 'bulk': how many values and letters a reading holds, each counted each time it is reached (what is shared counts as often as it is met; a slice's spare places count too). A statement '..UptoSaid' is the law's where the arguments, and the package variables that the reading takes, are together of bulk at most 1048576: NARROWER than '..Said'. Prove '..Said' where nothing that the law and all that it calls make is longer than what came in: it says more and counts as full. Else prove '..UptoSaid'. A law counts once. -/
mutual
def uptoBulk {H : Type} : DataW H → Nat
  | .lit (.string bytes) => bytes.length + 1
  | .lit _ => 1
  | .nil => 1
  | .ptr d => uptoBulk d + 1
  | .slice elems spare => uptoBulkAll elems + uptoBulkAll spare + 1
  | .agg parts => uptoBulkAll parts + 1
  | .iface _ d => uptoBulk d + 1
  | .map entries => uptoBulkEntries entries + 1
  | .held _ => 1
def uptoBulkAll {H : Type} : List (DataW H) → Nat
  | [] => 0
  | d :: r => uptoBulk d + uptoBulkAll r
def uptoBulkEntries {H : Type} : List (Lit × DataW H) → Nat
  | [] => 0
  | x :: r => uptoBulkEntry x + uptoBulkEntries r
def uptoBulkEntry {H : Type} : Lit × DataW H → Nat
  | (.string bytes, d) => bytes.length + uptoBulk d + 1
  | (_, d) => uptoBulk d + 1
 end
def uptoSmall : (H : Type) → List (DataW H) → Bool := fun _ ds => decide (uptoBulkAll ds ≤ 1048576)
def OpenSpec.upto (s : _root_.Go.ChangeSpec) : _root_.Go.OpenSpec := { _root_.Go.OpenSpec.ofChange s with cond := some uptoSmall }

/-- 'confluencelaw06.ObjectEncodes', WHERE WHAT IT READS IS OF BULK AT MOST 1048576: true; the input reads as it did. -/
def objectEncodesUptoRow : OpenClaim := { program := "ytjghckniloikgaadoor", sum := "af8cac852823eb543d1a1fe9ac7d744cb785aa7096c82513ce22d2ea092086a0", func := "confluence/confluencelaw06.ObjectEncodes", spec := "objectEncodes", unfollowed := true, recurses := true, named := ["confluence/sha.roots"], plainKeys := false, apart := false, laid := [("confluence/sha.roots", laid_confluence_sha_roots)], narrowed := true }
def ObjectEncodesUptoSaid : Prop := objectEncodesUptoRow.holds Tryd.pinned (OpenSpec.upto objectEncodesSpec)

/-- 'confluencelaw06.ObjectDecodes', WHERE WHAT IT READS IS OF BULK AT MOST 1048576: true; the input reads as it did. -/
def objectDecodesUptoRow : OpenClaim := { program := "ytjghckniloikgaadoor", sum := "af8cac852823eb543d1a1fe9ac7d744cb785aa7096c82513ce22d2ea092086a0", func := "confluence/confluencelaw06.ObjectDecodes", spec := "objectDecodes", unfollowed := true, recurses := true, named := ["confluence/sha.roots"], plainKeys := false, apart := false, laid := [("confluence/sha.roots", laid_confluence_sha_roots)], narrowed := true }
def ObjectDecodesUptoSaid : Prop := objectDecodesUptoRow.holds Tryd.pinned (OpenSpec.upto objectDecodesSpec)

/-- 'confluencelaw06.ObjectParts', WHERE WHAT IT READS IS OF BULK AT MOST 1048576: true; the input reads as it did. -/
def objectPartsUptoRow : OpenClaim := { program := "ytjghckniloikgaadoor", sum := "af8cac852823eb543d1a1fe9ac7d744cb785aa7096c82513ce22d2ea092086a0", func := "confluence/confluencelaw06.ObjectParts", spec := "objectParts", unfollowed := true, recurses := true, named := ["confluence/sha.roots"], plainKeys := false, apart := false, laid := [("confluence/sha.roots", laid_confluence_sha_roots)], narrowed := true }
def ObjectPartsUptoSaid : Prop := objectPartsUptoRow.holds Tryd.pinned (OpenSpec.upto objectPartsSpec)

/-- 'confluencelaw06.ObjectSame', WHERE WHAT IT READS IS OF BULK AT MOST 1048576: true; the input reads as it did. -/
def objectSameUptoRow : OpenClaim := { program := "ytjghckniloikgaadoor", sum := "af8cac852823eb543d1a1fe9ac7d744cb785aa7096c82513ce22d2ea092086a0", func := "confluence/confluencelaw06.ObjectSame", spec := "objectSame", unfollowed := true, recurses := true, named := ["confluence/sha.roots"], plainKeys := false, apart := false, laid := [("confluence/sha.roots", laid_confluence_sha_roots)], narrowed := true }
def ObjectSameUptoSaid : Prop := objectSameUptoRow.holds Tryd.pinned (OpenSpec.upto objectSameSpec)

/-- 'confluencelaw06.ObjectBack', WHERE WHAT IT READS IS OF BULK AT MOST 1048576: true; the input reads as it did. -/
def objectBackUptoRow : OpenClaim := { program := "ytjghckniloikgaadoor", sum := "af8cac852823eb543d1a1fe9ac7d744cb785aa7096c82513ce22d2ea092086a0", func := "confluence/confluencelaw06.ObjectBack", spec := "objectBack", unfollowed := true, recurses := true, named := ["confluence/sha.roots"], plainKeys := false, apart := false, laid := [("confluence/sha.roots", laid_confluence_sha_roots)], narrowed := true }
def ObjectBackUptoSaid : Prop := objectBackUptoRow.holds Tryd.pinned (OpenSpec.upto objectBackSpec)

/-- 'confluencelaw06.ObjectTrees', WHERE WHAT IT READS IS OF BULK AT MOST 1048576: true; the input reads as it did. -/
def objectTreesUptoRow : OpenClaim := { program := "ytjghckniloikgaadoor", sum := "af8cac852823eb543d1a1fe9ac7d744cb785aa7096c82513ce22d2ea092086a0", func := "confluence/confluencelaw06.ObjectTrees", spec := "objectTrees", unfollowed := true, recurses := true, named := ["confluence/sha.roots"], plainKeys := false, apart := false, laid := [("confluence/sha.roots", laid_confluence_sha_roots)], narrowed := true }
def ObjectTreesUptoSaid : Prop := objectTreesUptoRow.holds Tryd.pinned (OpenSpec.upto objectTreesSpec)

end Rows
end Go.Proofs.YtjghckniloikgaaDoor
