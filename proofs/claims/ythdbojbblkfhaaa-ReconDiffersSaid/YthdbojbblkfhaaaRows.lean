/-
  No cell of these rows narrows 'for every input' (looked for: loops, veiled, ifaces, maps, wideKeys, modest, calm, conditions, laid).
  DERIVED. THE GIVEN ROWS OF THIS SEAT. 9 by the template 'for every input the law returns true; each argument reads behind the call as it read before'; 0 by the template 'total and deterministic' (their statements: YthdbojbblkfhaaaTotals.lean).
  GIVEN WITH THE SEED: the statements are not yours to turn. If you find one false, say at which input.
  Laid BY PROGRAM, IN A SANDBOX (cutbox-rows.mjs): the forced cells as the released guide's own fill.sh prints them over the translation 5cada0fe0a3533b9… (all of the seat's roots in one cut). By AI agents, Wed Nov 11 2026. No macro, syntax, notation, axiom, sorry.
-/
import Derived.Test.YthdbojbblkfhaaaChecked
import GoSem.Claim
import GoSem.ClaimJoined
import GoSem.ClaimMapViews
import Derived.JoinedTies
import Derived.KernelRfl
namespace Go.Proofs.Ythdbojbblkfhaaa
/- THE CELL 'sum', in the pinned program and in every row, IS THE sha256 OF THE DUMP (.gsa) THAT YthdbojbblkfhaaaProg.lean LOADS. Nothing in Lean hashes anything: it is a label: what it is worth is what the hold of that sum in a sandbox is worth. -/
noncomputable def Try.pinned : Pinned := { name := "ythdbojbblkfhaaa", sum := "5cada0fe0a3533b9cd9f2132816d328290ce19c178653425b541603e78ce34d5", checked := Try.checked }
namespace Rows
def none {H : Type} : Left H := { results := [], args := [] }

/-- 'tollwaylaw43.ExchangeSends': WHATEVER THE INPUT: true; the input reads as it did. -/
def exchangeSendsSpec : ChangeSpec := { name := "exchangeSends", fn := fun _ => fun
  | [d1, d2, d3] => { results := [.lit (.bool true)], args := [d1, d2, d3] }
  | _ => none }
def exchangeSendsRow : OpenClaim := { program := "ythdbojbblkfhaaa", sum := "5cada0fe0a3533b9cd9f2132816d328290ce19c178653425b541603e78ce34d5", func := "tollway/tollwaylaw43.ExchangeSends", spec := "exchangeSends", inPlace := ["internal/bytealg.abigen_runtime_cmpstring"], unfollowed := true, recurses := true, apart := false }
def ExchangeSendsSaid : Prop := exchangeSendsRow.holds Try.pinned (OpenSpec.ofChange exchangeSendsSpec)

/-- ITS FALSE NEIGHBOUR: 'it returns false'. Refute it at one input. -/
def exchangeSendsWrong : ChangeSpec := { name := "exchangeSends", fn := fun _ => fun
  | [d1, d2, d3] => { results := [.lit (.bool false)], args := [d1, d2, d3] }
  | _ => none }
def ExchangeSendsWrongFalsely : Prop := exchangeSendsRow.holds Try.pinned (OpenSpec.ofChange exchangeSendsWrong)

/-- 'tollwaylaw43.ExchangeReceives': WHATEVER THE INPUT: true; the input reads as it did. -/
def exchangeReceivesSpec : ChangeSpec := { name := "exchangeReceives", fn := fun _ => fun
  | [d1, d2] => { results := [.lit (.bool true)], args := [d1, d2] }
  | _ => none }
def exchangeReceivesRow : OpenClaim := { program := "ythdbojbblkfhaaa", sum := "5cada0fe0a3533b9cd9f2132816d328290ce19c178653425b541603e78ce34d5", func := "tollway/tollwaylaw43.ExchangeReceives", spec := "exchangeReceives", inPlace := ["internal/bytealg.abigen_runtime_cmpstring"], unfollowed := true, recurses := true, apart := false }
def ExchangeReceivesSaid : Prop := exchangeReceivesRow.holds Try.pinned (OpenSpec.ofChange exchangeReceivesSpec)

/-- ITS FALSE NEIGHBOUR: 'it returns false'. Refute it at one input. -/
def exchangeReceivesWrong : ChangeSpec := { name := "exchangeReceives", fn := fun _ => fun
  | [d1, d2] => { results := [.lit (.bool false)], args := [d1, d2] }
  | _ => none }
def ExchangeReceivesWrongFalsely : Prop := exchangeReceivesRow.holds Try.pinned (OpenSpec.ofChange exchangeReceivesWrong)

/-- 'tollwaylaw43.ExchangeAcks': WHATEVER THE INPUT: true; the input reads as it did. -/
def exchangeAcksSpec : ChangeSpec := { name := "exchangeAcks", fn := fun _ => fun
  | [d1, d2] => { results := [.lit (.bool true)], args := [d1, d2] }
  | _ => none }
def exchangeAcksRow : OpenClaim := { program := "ythdbojbblkfhaaa", sum := "5cada0fe0a3533b9cd9f2132816d328290ce19c178653425b541603e78ce34d5", func := "tollway/tollwaylaw43.ExchangeAcks", spec := "exchangeAcks", inPlace := ["internal/bytealg.abigen_runtime_cmpstring"], unfollowed := true, recurses := true, apart := false }
def ExchangeAcksSaid : Prop := exchangeAcksRow.holds Try.pinned (OpenSpec.ofChange exchangeAcksSpec)

/-- ITS FALSE NEIGHBOUR: 'it returns false'. Refute it at one input. -/
def exchangeAcksWrong : ChangeSpec := { name := "exchangeAcks", fn := fun _ => fun
  | [d1, d2] => { results := [.lit (.bool false)], args := [d1, d2] }
  | _ => none }
def ExchangeAcksWrongFalsely : Prop := exchangeAcksRow.holds Try.pinned (OpenSpec.ofChange exchangeAcksWrong)

/-- 'tollwaylaw43.ExchangeClaims': WHATEVER THE INPUT: true; the input reads as it did. -/
def exchangeClaimsSpec : ChangeSpec := { name := "exchangeClaims", fn := fun _ => fun
  | [d] => { results := [.lit (.bool true)], args := [d] }
  | _ => none }
def exchangeClaimsRow : OpenClaim := { program := "ythdbojbblkfhaaa", sum := "5cada0fe0a3533b9cd9f2132816d328290ce19c178653425b541603e78ce34d5", func := "tollway/tollwaylaw43.ExchangeClaims", spec := "exchangeClaims", inPlace := ["internal/bytealg.abigen_runtime_cmpstring"], unfollowed := true, recurses := true, apart := false }
def ExchangeClaimsSaid : Prop := exchangeClaimsRow.holds Try.pinned (OpenSpec.ofChange exchangeClaimsSpec)

/-- ITS FALSE NEIGHBOUR: 'it returns false'. Refute it at one input. -/
def exchangeClaimsWrong : ChangeSpec := { name := "exchangeClaims", fn := fun _ => fun
  | [d] => { results := [.lit (.bool false)], args := [d] }
  | _ => none }
def ExchangeClaimsWrongFalsely : Prop := exchangeClaimsRow.holds Try.pinned (OpenSpec.ofChange exchangeClaimsWrong)

/-- 'tollwaylaw43.ExchangeOnce': WHATEVER THE INPUT: true; the input reads as it did. -/
def exchangeOnceSpec : ChangeSpec := { name := "exchangeOnce", fn := fun _ => fun
  | [d1, d2] => { results := [.lit (.bool true)], args := [d1, d2] }
  | _ => none }
def exchangeOnceRow : OpenClaim := { program := "ythdbojbblkfhaaa", sum := "5cada0fe0a3533b9cd9f2132816d328290ce19c178653425b541603e78ce34d5", func := "tollway/tollwaylaw43.ExchangeOnce", spec := "exchangeOnce", inPlace := ["internal/bytealg.abigen_runtime_cmpstring"], unfollowed := true, recurses := true, apart := false }
def ExchangeOnceSaid : Prop := exchangeOnceRow.holds Try.pinned (OpenSpec.ofChange exchangeOnceSpec)

/-- ITS FALSE NEIGHBOUR: 'it returns false'. Refute it at one input. -/
def exchangeOnceWrong : ChangeSpec := { name := "exchangeOnce", fn := fun _ => fun
  | [d1, d2] => { results := [.lit (.bool false)], args := [d1, d2] }
  | _ => none }
def ExchangeOnceWrongFalsely : Prop := exchangeOnceRow.holds Try.pinned (OpenSpec.ofChange exchangeOnceWrong)

/-- 'tollwaylaw43.ExchangeKeeps': WHATEVER THE INPUT: true; the input reads as it did. -/
def exchangeKeepsSpec : ChangeSpec := { name := "exchangeKeeps", fn := fun _ => fun
  | [d1, d2, d3] => { results := [.lit (.bool true)], args := [d1, d2, d3] }
  | _ => none }
def exchangeKeepsRow : OpenClaim := { program := "ythdbojbblkfhaaa", sum := "5cada0fe0a3533b9cd9f2132816d328290ce19c178653425b541603e78ce34d5", func := "tollway/tollwaylaw43.ExchangeKeeps", spec := "exchangeKeeps", inPlace := ["internal/bytealg.abigen_runtime_cmpstring"], unfollowed := true, recurses := true, apart := false }
def ExchangeKeepsSaid : Prop := exchangeKeepsRow.holds Try.pinned (OpenSpec.ofChange exchangeKeepsSpec)

/-- ITS FALSE NEIGHBOUR: 'it returns false'. Refute it at one input. -/
def exchangeKeepsWrong : ChangeSpec := { name := "exchangeKeeps", fn := fun _ => fun
  | [d1, d2, d3] => { results := [.lit (.bool false)], args := [d1, d2, d3] }
  | _ => none }
def ExchangeKeepsWrongFalsely : Prop := exchangeKeepsRow.holds Try.pinned (OpenSpec.ofChange exchangeKeepsWrong)

/-- 'tollwaylaw44.ReconDiffers': WHATEVER THE INPUT: true; the input reads as it did. -/
def reconDiffersSpec : ChangeSpec := { name := "reconDiffers", fn := fun _ => fun
  | [d1, d2] => { results := [.lit (.bool true)], args := [d1, d2] }
  | _ => none }
def reconDiffersRow : OpenClaim := { program := "ythdbojbblkfhaaa", sum := "5cada0fe0a3533b9cd9f2132816d328290ce19c178653425b541603e78ce34d5", func := "tollway/tollwaylaw44.ReconDiffers", spec := "reconDiffers", inPlace := ["internal/bytealg.abigen_runtime_cmpstring"], unfollowed := true, recurses := true, apart := false }
def ReconDiffersSaid : Prop := reconDiffersRow.holds Try.pinned (OpenSpec.ofChange reconDiffersSpec)

/-- ITS FALSE NEIGHBOUR: 'it returns false'. Refute it at one input. -/
def reconDiffersWrong : ChangeSpec := { name := "reconDiffers", fn := fun _ => fun
  | [d1, d2] => { results := [.lit (.bool false)], args := [d1, d2] }
  | _ => none }
def ReconDiffersWrongFalsely : Prop := reconDiffersRow.holds Try.pinned (OpenSpec.ofChange reconDiffersWrong)

/-- 'tollwaylaw44.ReconCorrects': WHATEVER THE INPUT: true; the input reads as it did. -/
def reconCorrectsSpec : ChangeSpec := { name := "reconCorrects", fn := fun _ => fun
  | [d] => { results := [.lit (.bool true)], args := [d] }
  | _ => none }
def reconCorrectsRow : OpenClaim := { program := "ythdbojbblkfhaaa", sum := "5cada0fe0a3533b9cd9f2132816d328290ce19c178653425b541603e78ce34d5", func := "tollway/tollwaylaw44.ReconCorrects", spec := "reconCorrects", inPlace := ["internal/bytealg.abigen_runtime_cmpstring"], unfollowed := true, recurses := true, apart := false }
def ReconCorrectsSaid : Prop := reconCorrectsRow.holds Try.pinned (OpenSpec.ofChange reconCorrectsSpec)

/-- ITS FALSE NEIGHBOUR: 'it returns false'. Refute it at one input. -/
def reconCorrectsWrong : ChangeSpec := { name := "reconCorrects", fn := fun _ => fun
  | [d] => { results := [.lit (.bool false)], args := [d] }
  | _ => none }
def ReconCorrectsWrongFalsely : Prop := reconCorrectsRow.holds Try.pinned (OpenSpec.ofChange reconCorrectsWrong)

/-- 'tollwaylaw44.ReconAgrees': WHATEVER THE INPUT: true; the input reads as it did. -/
def reconAgreesSpec : ChangeSpec := { name := "reconAgrees", fn := fun _ => fun
  | [d] => { results := [.lit (.bool true)], args := [d] }
  | _ => none }
def reconAgreesRow : OpenClaim := { program := "ythdbojbblkfhaaa", sum := "5cada0fe0a3533b9cd9f2132816d328290ce19c178653425b541603e78ce34d5", func := "tollway/tollwaylaw44.ReconAgrees", spec := "reconAgrees", inPlace := ["internal/bytealg.abigen_runtime_cmpstring"], unfollowed := true, recurses := true, apart := false }
def ReconAgreesSaid : Prop := reconAgreesRow.holds Try.pinned (OpenSpec.ofChange reconAgreesSpec)

/-- ITS FALSE NEIGHBOUR: 'it returns false'. Refute it at one input. -/
def reconAgreesWrong : ChangeSpec := { name := "reconAgrees", fn := fun _ => fun
  | [d] => { results := [.lit (.bool false)], args := [d] }
  | _ => none }
def ReconAgreesWrongFalsely : Prop := reconAgreesRow.holds Try.pinned (OpenSpec.ofChange reconAgreesWrong)

/- THE SECOND FORM. 'bulk': how many values and letters a reading holds, each counted each time it is reached (what is shared counts as often as it is met; a slice's spare places count too). A statement '..UptoSaid' is the law's where the arguments, and the package variables that the reading takes, are together of bulk at most 1048576: NARROWER than '..Said'. Prove '..Said' where nothing that the law and all that it calls make is longer than what came in: it says more and counts as full. Else prove '..UptoSaid'. A law counts once. -/
mutual
def uptoBulk {H : Type} : DataW H → Nat
  | .lit (.string bytes) => bytes.length + 1
  | .lit _ => 1
  | .nil => 1
  | .ptr d => uptoBulk d + 1
  | .slice elems spare => uptoBulkAll elems + uptoBulkAll spare + 1
  | .agg parts => uptoBulkAll parts + 1
  | .iface _ d => uptoBulk d + 1
  | .map entries => uptoBulkEntries entries + 1
  | .held _ => 1
def uptoBulkAll {H : Type} : List (DataW H) → Nat
  | [] => 0
  | d :: r => uptoBulk d + uptoBulkAll r
def uptoBulkEntries {H : Type} : List (Lit × DataW H) → Nat
  | [] => 0
  | x :: r => uptoBulkEntry x + uptoBulkEntries r
def uptoBulkEntry {H : Type} : Lit × DataW H → Nat
  | (.string bytes, d) => bytes.length + uptoBulk d + 1
  | (_, d) => uptoBulk d + 1
 end
def uptoSmall : (H : Type) → List (DataW H) → Bool := fun _ ds => decide (uptoBulkAll ds ≤ 1048576)
def OpenSpec.upto (s : _root_.Go.ChangeSpec) : _root_.Go.OpenSpec := { _root_.Go.OpenSpec.ofChange s with cond := some uptoSmall }

/-- 'tollwaylaw43.ExchangeSends', WHERE WHAT IT READS IS OF BULK AT MOST 1048576: true; the input reads as it did. -/
def exchangeSendsUptoRow : OpenClaim := { program := "ythdbojbblkfhaaa", sum := "5cada0fe0a3533b9cd9f2132816d328290ce19c178653425b541603e78ce34d5", func := "tollway/tollwaylaw43.ExchangeSends", spec := "exchangeSends", inPlace := ["internal/bytealg.abigen_runtime_cmpstring"], unfollowed := true, recurses := true, apart := false, narrowed := true }
def ExchangeSendsUptoSaid : Prop := exchangeSendsUptoRow.holds Try.pinned (OpenSpec.upto exchangeSendsSpec)

/-- 'tollwaylaw43.ExchangeReceives', WHERE WHAT IT READS IS OF BULK AT MOST 1048576: true; the input reads as it did. -/
def exchangeReceivesUptoRow : OpenClaim := { program := "ythdbojbblkfhaaa", sum := "5cada0fe0a3533b9cd9f2132816d328290ce19c178653425b541603e78ce34d5", func := "tollway/tollwaylaw43.ExchangeReceives", spec := "exchangeReceives", inPlace := ["internal/bytealg.abigen_runtime_cmpstring"], unfollowed := true, recurses := true, apart := false, narrowed := true }
def ExchangeReceivesUptoSaid : Prop := exchangeReceivesUptoRow.holds Try.pinned (OpenSpec.upto exchangeReceivesSpec)

/-- 'tollwaylaw43.ExchangeAcks', WHERE WHAT IT READS IS OF BULK AT MOST 1048576: true; the input reads as it did. -/
def exchangeAcksUptoRow : OpenClaim := { program := "ythdbojbblkfhaaa", sum := "5cada0fe0a3533b9cd9f2132816d328290ce19c178653425b541603e78ce34d5", func := "tollway/tollwaylaw43.ExchangeAcks", spec := "exchangeAcks", inPlace := ["internal/bytealg.abigen_runtime_cmpstring"], unfollowed := true, recurses := true, apart := false, narrowed := true }
def ExchangeAcksUptoSaid : Prop := exchangeAcksUptoRow.holds Try.pinned (OpenSpec.upto exchangeAcksSpec)

/-- 'tollwaylaw43.ExchangeClaims', WHERE WHAT IT READS IS OF BULK AT MOST 1048576: true; the input reads as it did. -/
def exchangeClaimsUptoRow : OpenClaim := { program := "ythdbojbblkfhaaa", sum := "5cada0fe0a3533b9cd9f2132816d328290ce19c178653425b541603e78ce34d5", func := "tollway/tollwaylaw43.ExchangeClaims", spec := "exchangeClaims", inPlace := ["internal/bytealg.abigen_runtime_cmpstring"], unfollowed := true, recurses := true, apart := false, narrowed := true }
def ExchangeClaimsUptoSaid : Prop := exchangeClaimsUptoRow.holds Try.pinned (OpenSpec.upto exchangeClaimsSpec)

/-- 'tollwaylaw43.ExchangeOnce', WHERE WHAT IT READS IS OF BULK AT MOST 1048576: true; the input reads as it did. -/
def exchangeOnceUptoRow : OpenClaim := { program := "ythdbojbblkfhaaa", sum := "5cada0fe0a3533b9cd9f2132816d328290ce19c178653425b541603e78ce34d5", func := "tollway/tollwaylaw43.ExchangeOnce", spec := "exchangeOnce", inPlace := ["internal/bytealg.abigen_runtime_cmpstring"], unfollowed := true, recurses := true, apart := false, narrowed := true }
def ExchangeOnceUptoSaid : Prop := exchangeOnceUptoRow.holds Try.pinned (OpenSpec.upto exchangeOnceSpec)

/-- 'tollwaylaw43.ExchangeKeeps', WHERE WHAT IT READS IS OF BULK AT MOST 1048576: true; the input reads as it did. -/
def exchangeKeepsUptoRow : OpenClaim := { program := "ythdbojbblkfhaaa", sum := "5cada0fe0a3533b9cd9f2132816d328290ce19c178653425b541603e78ce34d5", func := "tollway/tollwaylaw43.ExchangeKeeps", spec := "exchangeKeeps", inPlace := ["internal/bytealg.abigen_runtime_cmpstring"], unfollowed := true, recurses := true, apart := false, narrowed := true }
def ExchangeKeepsUptoSaid : Prop := exchangeKeepsUptoRow.holds Try.pinned (OpenSpec.upto exchangeKeepsSpec)

/-- 'tollwaylaw44.ReconDiffers', WHERE WHAT IT READS IS OF BULK AT MOST 1048576: true; the input reads as it did. -/
def reconDiffersUptoRow : OpenClaim := { program := "ythdbojbblkfhaaa", sum := "5cada0fe0a3533b9cd9f2132816d328290ce19c178653425b541603e78ce34d5", func := "tollway/tollwaylaw44.ReconDiffers", spec := "reconDiffers", inPlace := ["internal/bytealg.abigen_runtime_cmpstring"], unfollowed := true, recurses := true, apart := false, narrowed := true }
def ReconDiffersUptoSaid : Prop := reconDiffersUptoRow.holds Try.pinned (OpenSpec.upto reconDiffersSpec)

/-- 'tollwaylaw44.ReconCorrects', WHERE WHAT IT READS IS OF BULK AT MOST 1048576: true; the input reads as it did. -/
def reconCorrectsUptoRow : OpenClaim := { program := "ythdbojbblkfhaaa", sum := "5cada0fe0a3533b9cd9f2132816d328290ce19c178653425b541603e78ce34d5", func := "tollway/tollwaylaw44.ReconCorrects", spec := "reconCorrects", inPlace := ["internal/bytealg.abigen_runtime_cmpstring"], unfollowed := true, recurses := true, apart := false, narrowed := true }
def ReconCorrectsUptoSaid : Prop := reconCorrectsUptoRow.holds Try.pinned (OpenSpec.upto reconCorrectsSpec)

/-- 'tollwaylaw44.ReconAgrees', WHERE WHAT IT READS IS OF BULK AT MOST 1048576: true; the input reads as it did. -/
def reconAgreesUptoRow : OpenClaim := { program := "ythdbojbblkfhaaa", sum := "5cada0fe0a3533b9cd9f2132816d328290ce19c178653425b541603e78ce34d5", func := "tollway/tollwaylaw44.ReconAgrees", spec := "reconAgrees", inPlace := ["internal/bytealg.abigen_runtime_cmpstring"], unfollowed := true, recurses := true, apart := false, narrowed := true }
def ReconAgreesUptoSaid : Prop := reconAgreesUptoRow.holds Try.pinned (OpenSpec.upto reconAgreesSpec)

end Rows
end Go.Proofs.Ythdbojbblkfhaaa
