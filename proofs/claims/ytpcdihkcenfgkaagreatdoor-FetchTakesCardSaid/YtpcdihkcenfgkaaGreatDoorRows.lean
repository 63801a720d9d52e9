/-
  NARROWER THAN 'FOR EVERY INPUT', by the rows' own cells (each row's printed sentence says how): FetchAsks: laid · FetchTakes: laid · FetchRounds: laid · FetchFits: laid · FetchEnds: laid · UploadSends: laid · UploadArrives: laid.
  DERIVED. THE GIVEN ROWS OF THIS SEAT. 7 by the template 'for every input the law returns true; each argument reads behind the call as it read before'; 0 by the template 'total and deterministic' (their statements: YtpcdihkcenfgkaaGreatDoorTotals.lean).
  GIVEN WITH THE SEED: the statements are not yours to turn. If you find one false, say at which input.
  Laid BY PROGRAM, IN A SANDBOX (cutbox-rows.mjs): the forced cells as the released guide's own fill.sh prints them over the translation 87519a41f04969b9… (all of the seat's roots in one cut). By AI agents, Wed Nov 11 2026. No macro, syntax, notation, axiom, sorry.
-/
import Derived.Test.YtpcdihkcenfgkaaGreatDoorChecked
import GoSem.Claim
import GoSem.ClaimJoined
import GoSem.ClaimMapViews
import Derived.JoinedTies
import Derived.KernelRfl
namespace Go.Proofs.YtpcdihkcenfgkaaGreatDoor
/- THE CELL 'sum', in the pinned program and in every row, IS THE sha256 OF THE DUMP (.gsa) THAT YtpcdihkcenfgkaaGreatDoorProg.lean LOADS. Nothing in Lean hashes anything: it is a label: what it is worth is what the hold of that sum in a sandbox is worth. -/
noncomputable def Tryz.pinned : Pinned := { name := "ytpcdihkcenfgkaagreatdoor", sum := "87519a41f04969b921699fb807b682fb9735e07798ef73cc3d2fc098f4009be1", checked := Tryz.checked }
namespace Rows
def none {H : Type} : Left H := { results := [], args := [] }

/- WHAT THE LISTED PACKAGE-LEVEL VARIABLES READ AS WHEN THE CALL BEGINS. Each datum BY PROGRAM (the guide's laid-datum.mjs) off the statement by which the dump's own 'gosem.cut.vars' lays the variable. In a bare row this is a premise. The card (YtpcdihkcenfgkaaGreatDoorCards.lean) ties it to the program's text. -/
def laid_confluence_sha_roots {H : Type} : DataW H := .agg [.lit (.int .u32 1116352408), .lit (.int .u32 1899447441), .lit (.int .u32 3049323471), .lit (.int .u32 3921009573), .lit (.int .u32 961987163), .lit (.int .u32 1508970993), .lit (.int .u32 2453635748), .lit (.int .u32 2870763221), .lit (.int .u32 3624381080), .lit (.int .u32 310598401), .lit (.int .u32 607225278), .lit (.int .u32 1426881987), .lit (.int .u32 1925078388), .lit (.int .u32 2162078206), .lit (.int .u32 2614888103), .lit (.int .u32 3248222580), .lit (.int .u32 3835390401), .lit (.int .u32 4022224774), .lit (.int .u32 264347078), .lit (.int .u32 604807628), .lit (.int .u32 770255983), .lit (.int .u32 1249150122), .lit (.int .u32 1555081692), .lit (.int .u32 1996064986), .lit (.int .u32 2554220882), .lit (.int .u32 2821834349), .lit (.int .u32 2952996808), .lit (.int .u32 3210313671), .lit (.int .u32 3336571891), .lit (.int .u32 3584528711), .lit (.int .u32 113926993), .lit (.int .u32 338241895), .lit (.int .u32 666307205), .lit (.int .u32 773529912), .lit (.int .u32 1294757372), .lit (.int .u32 1396182291), .lit (.int .u32 1695183700), .lit (.int .u32 1986661051), .lit (.int .u32 2177026350), .lit (.int .u32 2456956037), .lit (.int .u32 2730485921), .lit (.int .u32 2820302411), .lit (.int .u32 3259730800), .lit (.int .u32 3345764771), .lit (.int .u32 3516065817), .lit (.int .u32 3600352804), .lit (.int .u32 4094571909), .lit (.int .u32 275423344), .lit (.int .u32 430227734), .lit (.int .u32 506948616), .lit (.int .u32 659060556), .lit (.int .u32 883997877), .lit (.int .u32 958139571), .lit (.int .u32 1322822218), .lit (.int .u32 1537002063), .lit (.int .u32 1747873779), .lit (.int .u32 1955562222), .lit (.int .u32 2024104815), .lit (.int .u32 2227730452), .lit (.int .u32 2361852424), .lit (.int .u32 2428436474), .lit (.int .u32 2756734187), .lit (.int .u32 3204031479), .lit (.int .u32 3329325298)]

/-- 'confluencelaw20.FetchAsks': WHATEVER THE INPUT: true; the input reads as it did. -/
def fetchAsksSpec : ChangeSpec := { name := "fetchAsks", fn := fun _ => fun
  | [d1, d2, d3] => { results := [.lit (.bool true)], args := [d1, d2, d3] }
  | _ => none }
def fetchAsksRow : OpenClaim := { program := "ytpcdihkcenfgkaagreatdoor", sum := "87519a41f04969b921699fb807b682fb9735e07798ef73cc3d2fc098f4009be1", func := "confluence/confluencelaw20.FetchAsks", spec := "fetchAsks", unfollowed := true, recurses := true, named := ["confluence/sha.roots"], plainKeys := false, apart := false, laid := [("confluence/sha.roots", laid_confluence_sha_roots)] }
def FetchAsksSaid : Prop := fetchAsksRow.holds Tryz.pinned (OpenSpec.ofChange fetchAsksSpec)

/-- ITS FALSE NEIGHBOUR: 'it returns false'. Refute it at one input. -/
def fetchAsksWrong : ChangeSpec := { name := "fetchAsks", fn := fun _ => fun
  | [d1, d2, d3] => { results := [.lit (.bool false)], args := [d1, d2, d3] }
  | _ => none }
def FetchAsksWrongFalsely : Prop := fetchAsksRow.holds Tryz.pinned (OpenSpec.ofChange fetchAsksWrong)

/-- 'confluencelaw20.FetchTakes': WHATEVER THE INPUT: true; the input reads as it did. -/
def fetchTakesSpec : ChangeSpec := { name := "fetchTakes", fn := fun _ => fun
  | [d1, d2, d3] => { results := [.lit (.bool true)], args := [d1, d2, d3] }
  | _ => none }
def fetchTakesRow : OpenClaim := { program := "ytpcdihkcenfgkaagreatdoor", sum := "87519a41f04969b921699fb807b682fb9735e07798ef73cc3d2fc098f4009be1", func := "confluence/confluencelaw20.FetchTakes", spec := "fetchTakes", unfollowed := true, recurses := true, named := ["confluence/sha.roots"], plainKeys := false, apart := false, laid := [("confluence/sha.roots", laid_confluence_sha_roots)] }
def FetchTakesSaid : Prop := fetchTakesRow.holds Tryz.pinned (OpenSpec.ofChange fetchTakesSpec)

/-- ITS FALSE NEIGHBOUR: 'it returns false'. Refute it at one input. -/
def fetchTakesWrong : ChangeSpec := { name := "fetchTakes", fn := fun _ => fun
  | [d1, d2, d3] => { results := [.lit (.bool false)], args := [d1, d2, d3] }
  | _ => none }
def FetchTakesWrongFalsely : Prop := fetchTakesRow.holds Tryz.pinned (OpenSpec.ofChange fetchTakesWrong)

/-- 'confluencelaw20.FetchRounds': WHATEVER THE INPUT: true; the input reads as it did. -/
def fetchRoundsSpec : ChangeSpec := { name := "fetchRounds", fn := fun _ => fun
  | [d1, d2] => { results := [.lit (.bool true)], args := [d1, d2] }
  | _ => none }
def fetchRoundsRow : OpenClaim := { program := "ytpcdihkcenfgkaagreatdoor", sum := "87519a41f04969b921699fb807b682fb9735e07798ef73cc3d2fc098f4009be1", func := "confluence/confluencelaw20.FetchRounds", spec := "fetchRounds", unfollowed := true, recurses := true, named := ["confluence/sha.roots"], plainKeys := false, apart := false, laid := [("confluence/sha.roots", laid_confluence_sha_roots)] }
def FetchRoundsSaid : Prop := fetchRoundsRow.holds Tryz.pinned (OpenSpec.ofChange fetchRoundsSpec)

/-- ITS FALSE NEIGHBOUR: 'it returns false'. Refute it at one input. -/
def fetchRoundsWrong : ChangeSpec := { name := "fetchRounds", fn := fun _ => fun
  | [d1, d2] => { results := [.lit (.bool false)], args := [d1, d2] }
  | _ => none }
def FetchRoundsWrongFalsely : Prop := fetchRoundsRow.holds Tryz.pinned (OpenSpec.ofChange fetchRoundsWrong)

/-- 'confluencelaw20.FetchFits': WHATEVER THE INPUT: true; the input reads as it did. -/
def fetchFitsSpec : ChangeSpec := { name := "fetchFits", fn := fun _ => fun
  | [d1, d2, d3] => { results := [.lit (.bool true)], args := [d1, d2, d3] }
  | _ => none }
def fetchFitsRow : OpenClaim := { program := "ytpcdihkcenfgkaagreatdoor", sum := "87519a41f04969b921699fb807b682fb9735e07798ef73cc3d2fc098f4009be1", func := "confluence/confluencelaw20.FetchFits", spec := "fetchFits", unfollowed := true, recurses := true, named := ["confluence/sha.roots"], plainKeys := false, apart := false, laid := [("confluence/sha.roots", laid_confluence_sha_roots)] }
def FetchFitsSaid : Prop := fetchFitsRow.holds Tryz.pinned (OpenSpec.ofChange fetchFitsSpec)

/-- ITS FALSE NEIGHBOUR: 'it returns false'. Refute it at one input. -/
def fetchFitsWrong : ChangeSpec := { name := "fetchFits", fn := fun _ => fun
  | [d1, d2, d3] => { results := [.lit (.bool false)], args := [d1, d2, d3] }
  | _ => none }
def FetchFitsWrongFalsely : Prop := fetchFitsRow.holds Tryz.pinned (OpenSpec.ofChange fetchFitsWrong)

/-- 'confluencelaw20.FetchEnds': WHATEVER THE INPUT: true; the input reads as it did. -/
def fetchEndsSpec : ChangeSpec := { name := "fetchEnds", fn := fun _ => fun
  | [d] => { results := [.lit (.bool true)], args := [d] }
  | _ => none }
def fetchEndsRow : OpenClaim := { program := "ytpcdihkcenfgkaagreatdoor", sum := "87519a41f04969b921699fb807b682fb9735e07798ef73cc3d2fc098f4009be1", func := "confluence/confluencelaw20.FetchEnds", spec := "fetchEnds", unfollowed := true, recurses := true, named := ["confluence/sha.roots"], plainKeys := false, apart := false, laid := [("confluence/sha.roots", laid_confluence_sha_roots)] }
def FetchEndsSaid : Prop := fetchEndsRow.holds Tryz.pinned (OpenSpec.ofChange fetchEndsSpec)

/-- ITS FALSE NEIGHBOUR: 'it returns false'. Refute it at one input. -/
def fetchEndsWrong : ChangeSpec := { name := "fetchEnds", fn := fun _ => fun
  | [d] => { results := [.lit (.bool false)], args := [d] }
  | _ => none }
def FetchEndsWrongFalsely : Prop := fetchEndsRow.holds Tryz.pinned (OpenSpec.ofChange fetchEndsWrong)

/-- 'confluencelaw18.UploadSends': WHATEVER THE INPUT: true; the input reads as it did. -/
def uploadSendsSpec : ChangeSpec := { name := "uploadSends", fn := fun _ => fun
  | [d1, d2, d3] => { results := [.lit (.bool true)], args := [d1, d2, d3] }
  | _ => none }
def uploadSendsRow : OpenClaim := { program := "ytpcdihkcenfgkaagreatdoor", sum := "87519a41f04969b921699fb807b682fb9735e07798ef73cc3d2fc098f4009be1", func := "confluence/confluencelaw18.UploadSends", spec := "uploadSends", unfollowed := true, recurses := true, named := ["confluence/sha.roots"], plainKeys := false, apart := false, laid := [("confluence/sha.roots", laid_confluence_sha_roots)] }
def UploadSendsSaid : Prop := uploadSendsRow.holds Tryz.pinned (OpenSpec.ofChange uploadSendsSpec)

/-- ITS FALSE NEIGHBOUR: 'it returns false'. Refute it at one input. -/
def uploadSendsWrong : ChangeSpec := { name := "uploadSends", fn := fun _ => fun
  | [d1, d2, d3] => { results := [.lit (.bool false)], args := [d1, d2, d3] }
  | _ => none }
def UploadSendsWrongFalsely : Prop := uploadSendsRow.holds Tryz.pinned (OpenSpec.ofChange uploadSendsWrong)

/-- 'confluencelaw18.UploadArrives': WHATEVER THE INPUT: true; the input reads as it did. -/
def uploadArrivesSpec : ChangeSpec := { name := "uploadArrives", fn := fun _ => fun
  | [d1, d2] => { results := [.lit (.bool true)], args := [d1, d2] }
  | _ => none }
def uploadArrivesRow : OpenClaim := { program := "ytpcdihkcenfgkaagreatdoor", sum := "87519a41f04969b921699fb807b682fb9735e07798ef73cc3d2fc098f4009be1", func := "confluence/confluencelaw18.UploadArrives", spec := "uploadArrives", unfollowed := true, recurses := true, named := ["confluence/sha.roots"], plainKeys := false, apart := false, laid := [("confluence/sha.roots", laid_confluence_sha_roots)] }
def UploadArrivesSaid : Prop := uploadArrivesRow.holds Tryz.pinned (OpenSpec.ofChange uploadArrivesSpec)

/-- ITS FALSE NEIGHBOUR: 'it returns false'. Refute it at one input. -/
def uploadArrivesWrong : ChangeSpec := { name := "uploadArrives", fn := fun _ => fun
  | [d1, d2] => { results := [.lit (.bool false)], args := [d1, d2] }
  | _ => none }
def UploadArrivesWrongFalsely : Prop := uploadArrivesRow.holds Tryz.pinned (OpenSpec.ofChange uploadArrivesWrong)

/- THE SECOND FORM. 'bulk': how many values and letters a reading holds, each counted each time it is reached (what is shared counts as often as it is met; a slice's spare places count too). A statement '..UptoSaid' is the law's where the arguments, and the package variables that the reading takes, are together of bulk at most 1048576: NARROWER than '..Said'. Prove '..Said' where nothing that the law and all that it calls make is longer than what came in: it says more and counts as full. Else prove '..UptoSaid'. A law counts once. -/
mutual
def uptoBulk {H : Type} : DataW H → Nat
  | .lit (.string bytes) => bytes.length + 1
  | .lit _ => 1
  | .nil => 1
  | .ptr d => uptoBulk d + 1
  | .slice elems spare => uptoBulkAll elems + uptoBulkAll spare + 1
  | .agg parts => uptoBulkAll parts + 1
  | .iface _ d => uptoBulk d + 1
  | .map entries => uptoBulkEntries entries + 1
  | .held _ => 1
def uptoBulkAll {H : Type} : List (DataW H) → Nat
  | [] => 0
  | d :: r => uptoBulk d + uptoBulkAll r
def uptoBulkEntries {H : Type} : List (Lit × DataW H) → Nat
  | [] => 0
  | x :: r => uptoBulkEntry x + uptoBulkEntries r
def uptoBulkEntry {H : Type} : Lit × DataW H → Nat
  | (.string bytes, d) => bytes.length + uptoBulk d + 1
  | (_, d) => uptoBulk d + 1
 end
def uptoSmall : (H : Type) → List (DataW H) → Bool := fun _ ds => decide (uptoBulkAll ds ≤ 1048576)
def OpenSpec.upto (s : _root_.Go.ChangeSpec) : _root_.Go.OpenSpec := { _root_.Go.OpenSpec.ofChange s with cond := some uptoSmall }

/-- 'confluencelaw20.FetchAsks', WHERE WHAT IT READS IS OF BULK AT MOST 1048576: true; the input reads as it did. -/
def fetchAsksUptoRow : OpenClaim := { program := "ytpcdihkcenfgkaagreatdoor", sum := "87519a41f04969b921699fb807b682fb9735e07798ef73cc3d2fc098f4009be1", func := "confluence/confluencelaw20.FetchAsks", spec := "fetchAsks", unfollowed := true, recurses := true, named := ["confluence/sha.roots"], plainKeys := false, apart := false, laid := [("confluence/sha.roots", laid_confluence_sha_roots)], narrowed := true }
def FetchAsksUptoSaid : Prop := fetchAsksUptoRow.holds Tryz.pinned (OpenSpec.upto fetchAsksSpec)

/-- 'confluencelaw20.FetchTakes', WHERE WHAT IT READS IS OF BULK AT MOST 1048576: true; the input reads as it did. -/
def fetchTakesUptoRow : OpenClaim := { program := "ytpcdihkcenfgkaagreatdoor", sum := "87519a41f04969b921699fb807b682fb9735e07798ef73cc3d2fc098f4009be1", func := "confluence/confluencelaw20.FetchTakes", spec := "fetchTakes", unfollowed := true, recurses := true, named := ["confluence/sha.roots"], plainKeys := false, apart := false, laid := [("confluence/sha.roots", laid_confluence_sha_roots)], narrowed := true }
def FetchTakesUptoSaid : Prop := fetchTakesUptoRow.holds Tryz.pinned (OpenSpec.upto fetchTakesSpec)

/-- 'confluencelaw20.FetchRounds', WHERE WHAT IT READS IS OF BULK AT MOST 1048576: true; the input reads as it did. -/
def fetchRoundsUptoRow : OpenClaim := { program := "ytpcdihkcenfgkaagreatdoor", sum := "87519a41f04969b921699fb807b682fb9735e07798ef73cc3d2fc098f4009be1", func := "confluence/confluencelaw20.FetchRounds", spec := "fetchRounds", unfollowed := true, recurses := true, named := ["confluence/sha.roots"], plainKeys := false, apart := false, laid := [("confluence/sha.roots", laid_confluence_sha_roots)], narrowed := true }
def FetchRoundsUptoSaid : Prop := fetchRoundsUptoRow.holds Tryz.pinned (OpenSpec.upto fetchRoundsSpec)

/-- 'confluencelaw20.FetchFits', WHERE WHAT IT READS IS OF BULK AT MOST 1048576: true; the input reads as it did. -/
def fetchFitsUptoRow : OpenClaim := { program := "ytpcdihkcenfgkaagreatdoor", sum := "87519a41f04969b921699fb807b682fb9735e07798ef73cc3d2fc098f4009be1", func := "confluence/confluencelaw20.FetchFits", spec := "fetchFits", unfollowed := true, recurses := true, named := ["confluence/sha.roots"], plainKeys := false, apart := false, laid := [("confluence/sha.roots", laid_confluence_sha_roots)], narrowed := true }
def FetchFitsUptoSaid : Prop := fetchFitsUptoRow.holds Tryz.pinned (OpenSpec.upto fetchFitsSpec)

/-- 'confluencelaw20.FetchEnds', WHERE WHAT IT READS IS OF BULK AT MOST 1048576: true; the input reads as it did. -/
def fetchEndsUptoRow : OpenClaim := { program := "ytpcdihkcenfgkaagreatdoor", sum := "87519a41f04969b921699fb807b682fb9735e07798ef73cc3d2fc098f4009be1", func := "confluence/confluencelaw20.FetchEnds", spec := "fetchEnds", unfollowed := true, recurses := true, named := ["confluence/sha.roots"], plainKeys := false, apart := false, laid := [("confluence/sha.roots", laid_confluence_sha_roots)], narrowed := true }
def FetchEndsUptoSaid : Prop := fetchEndsUptoRow.holds Tryz.pinned (OpenSpec.upto fetchEndsSpec)

/-- 'confluencelaw18.UploadSends', WHERE WHAT IT READS IS OF BULK AT MOST 1048576: true; the input reads as it did. -/
def uploadSendsUptoRow : OpenClaim := { program := "ytpcdihkcenfgkaagreatdoor", sum := "87519a41f04969b921699fb807b682fb9735e07798ef73cc3d2fc098f4009be1", func := "confluence/confluencelaw18.UploadSends", spec := "uploadSends", unfollowed := true, recurses := true, named := ["confluence/sha.roots"], plainKeys := false, apart := false, laid := [("confluence/sha.roots", laid_confluence_sha_roots)], narrowed := true }
def UploadSendsUptoSaid : Prop := uploadSendsUptoRow.holds Tryz.pinned (OpenSpec.upto uploadSendsSpec)

/-- 'confluencelaw18.UploadArrives', WHERE WHAT IT READS IS OF BULK AT MOST 1048576: true; the input reads as it did. -/
def uploadArrivesUptoRow : OpenClaim := { program := "ytpcdihkcenfgkaagreatdoor", sum := "87519a41f04969b921699fb807b682fb9735e07798ef73cc3d2fc098f4009be1", func := "confluence/confluencelaw18.UploadArrives", spec := "uploadArrives", unfollowed := true, recurses := true, named := ["confluence/sha.roots"], plainKeys := false, apart := false, laid := [("confluence/sha.roots", laid_confluence_sha_roots)], narrowed := true }
def UploadArrivesUptoSaid : Prop := uploadArrivesUptoRow.holds Tryz.pinned (OpenSpec.upto uploadArrivesSpec)

end Rows
end Go.Proofs.YtpcdihkcenfgkaaGreatDoor
