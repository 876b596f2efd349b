/-
  No cell of these rows narrows 'for every input' (looked for: loops, veiled, ifaces, maps, wideKeys, modest, calm, conditions, laid).
  DERIVED. THE GIVEN ROWS OF THIS SEAT. 16 by the template 'for every input the law returns true; each argument reads behind the call as it read before'; 0 by the template 'total and deterministic' (their statements: YtcdfoicebcmlaaaTotals.lean).
  GIVEN WITH THE SEED: the statements are not yours to turn. If you find one false, say at which input.
  Laid BY PROGRAM, IN A SANDBOX (cutbox-rows.mjs): the forced cells as the released guide's own fill.sh prints them over the translation 63cd5b1ad74154eb… (all of the seat's roots in one cut). By AI agents, Wed Nov 11 2026. No macro, syntax, notation, axiom, sorry.
-/
import Derived.Test.YtcdfoicebcmlaaaChecked
import GoSem.Claim
import GoSem.ClaimJoined
import GoSem.ClaimMapViews
import Derived.JoinedTies
import Derived.KernelRfl
namespace Go.Proofs.Ytcdfoicebcmlaaa
/- THE CELL 'sum', in the pinned program and in every row, IS THE sha256 OF THE DUMP (.gsa) THAT YtcdfoicebcmlaaaProg.lean LOADS. Nothing in Lean hashes anything: it is a label: what it is worth is what the hold of that sum in a sandbox is worth. -/
noncomputable def Try.pinned : Pinned := { name := "ytcdfoicebcmlaaa", sum := "63cd5b1ad74154eb60db36b0a989f384367dccacf1c988288b32bdae98bf0f93", checked := Try.checked }
namespace Rows
def none {H : Type} : Left H := { results := [], args := [] }

/-- 'spinnakerlaw10.SampleFew': WHATEVER THE INPUT: true; the input reads as it did. -/
def sampleFewSpec : ChangeSpec := { name := "sampleFew", fn := fun _ => fun
  | [d] => { results := [.lit (.bool true)], args := [d] }
  | _ => none }
def sampleFewRow : OpenClaim := { program := "ytcdfoicebcmlaaa", sum := "63cd5b1ad74154eb60db36b0a989f384367dccacf1c988288b32bdae98bf0f93", func := "spinnaker/spinnakerlaw10.SampleFew", spec := "sampleFew", apart := false }
def SampleFewSaid : Prop := sampleFewRow.holds Try.pinned (OpenSpec.ofChange sampleFewSpec)

/-- ITS FALSE NEIGHBOUR: 'it returns false'. Refute it at one input. -/
def sampleFewWrong : ChangeSpec := { name := "sampleFew", fn := fun _ => fun
  | [d] => { results := [.lit (.bool false)], args := [d] }
  | _ => none }
def SampleFewWrongFalsely : Prop := sampleFewRow.holds Try.pinned (OpenSpec.ofChange sampleFewWrong)

/-- 'spinnakerlaw10.SampleAll': WHATEVER THE INPUT: true; the input reads as it did. -/
def sampleAllSpec : ChangeSpec := { name := "sampleAll", fn := fun _ => fun
  | [d1, d2, d3] => { results := [.lit (.bool true)], args := [d1, d2, d3] }
  | _ => none }
def sampleAllRow : OpenClaim := { program := "ytcdfoicebcmlaaa", sum := "63cd5b1ad74154eb60db36b0a989f384367dccacf1c988288b32bdae98bf0f93", func := "spinnaker/spinnakerlaw10.SampleAll", spec := "sampleAll", apart := false }
def SampleAllSaid : Prop := sampleAllRow.holds Try.pinned (OpenSpec.ofChange sampleAllSpec)

/-- ITS FALSE NEIGHBOUR: 'it returns false'. Refute it at one input. -/
def sampleAllWrong : ChangeSpec := { name := "sampleAll", fn := fun _ => fun
  | [d1, d2, d3] => { results := [.lit (.bool false)], args := [d1, d2, d3] }
  | _ => none }
def SampleAllWrongFalsely : Prop := sampleAllRow.holds Try.pinned (OpenSpec.ofChange sampleAllWrong)

/-- 'spinnakerlaw10.SampleOrders': WHATEVER THE INPUT: true; the input reads as it did. -/
def sampleOrdersSpec : ChangeSpec := { name := "sampleOrders", fn := fun _ => fun
  | [d1, d2] => { results := [.lit (.bool true)], args := [d1, d2] }
  | _ => none }
def sampleOrdersRow : OpenClaim := { program := "ytcdfoicebcmlaaa", sum := "63cd5b1ad74154eb60db36b0a989f384367dccacf1c988288b32bdae98bf0f93", func := "spinnaker/spinnakerlaw10.SampleOrders", spec := "sampleOrders", apart := false }
def SampleOrdersSaid : Prop := sampleOrdersRow.holds Try.pinned (OpenSpec.ofChange sampleOrdersSpec)

/-- ITS FALSE NEIGHBOUR: 'it returns false'. Refute it at one input. -/
def sampleOrdersWrong : ChangeSpec := { name := "sampleOrders", fn := fun _ => fun
  | [d1, d2] => { results := [.lit (.bool false)], args := [d1, d2] }
  | _ => none }
def SampleOrdersWrongFalsely : Prop := sampleOrdersRow.holds Try.pinned (OpenSpec.ofChange sampleOrdersWrong)

/-- 'spinnakerlaw20.QueueLate': WHATEVER THE INPUT: true; the input reads as it did. -/
def queueLateSpec : ChangeSpec := { name := "queueLate", fn := fun _ => fun
  | [d1, d2, d3] => { results := [.lit (.bool true)], args := [d1, d2, d3] }
  | _ => none }
def queueLateRow : OpenClaim := { program := "ytcdfoicebcmlaaa", sum := "63cd5b1ad74154eb60db36b0a989f384367dccacf1c988288b32bdae98bf0f93", func := "spinnaker/spinnakerlaw20.QueueLate", spec := "queueLate", apart := false }
def QueueLateSaid : Prop := queueLateRow.holds Try.pinned (OpenSpec.ofChange queueLateSpec)

/-- ITS FALSE NEIGHBOUR: 'it returns false'. Refute it at one input. -/
def queueLateWrong : ChangeSpec := { name := "queueLate", fn := fun _ => fun
  | [d1, d2, d3] => { results := [.lit (.bool false)], args := [d1, d2, d3] }
  | _ => none }
def QueueLateWrongFalsely : Prop := queueLateRow.holds Try.pinned (OpenSpec.ofChange queueLateWrong)

/-- 'spinnakerlaw20.QueuePlays': WHATEVER THE INPUT: true; the input reads as it did. -/
def queuePlaysSpec : ChangeSpec := { name := "queuePlays", fn := fun _ => fun
  | [d1, d2] => { results := [.lit (.bool true)], args := [d1, d2] }
  | _ => none }
def queuePlaysRow : OpenClaim := { program := "ytcdfoicebcmlaaa", sum := "63cd5b1ad74154eb60db36b0a989f384367dccacf1c988288b32bdae98bf0f93", func := "spinnaker/spinnakerlaw20.QueuePlays", spec := "queuePlays", apart := false }
def QueuePlaysSaid : Prop := queuePlaysRow.holds Try.pinned (OpenSpec.ofChange queuePlaysSpec)

/-- ITS FALSE NEIGHBOUR: 'it returns false'. Refute it at one input. -/
def queuePlaysWrong : ChangeSpec := { name := "queuePlays", fn := fun _ => fun
  | [d1, d2] => { results := [.lit (.bool false)], args := [d1, d2] }
  | _ => none }
def QueuePlaysWrongFalsely : Prop := queuePlaysRow.holds Try.pinned (OpenSpec.ofChange queuePlaysWrong)

/-- 'spinnakerlaw20.QueueFirst': WHATEVER THE INPUT: true; the input reads as it did. -/
def queueFirstSpec : ChangeSpec := { name := "queueFirst", fn := fun _ => fun
  | [d1, d2] => { results := [.lit (.bool true)], args := [d1, d2] }
  | _ => none }
def queueFirstRow : OpenClaim := { program := "ytcdfoicebcmlaaa", sum := "63cd5b1ad74154eb60db36b0a989f384367dccacf1c988288b32bdae98bf0f93", func := "spinnaker/spinnakerlaw20.QueueFirst", spec := "queueFirst", apart := false }
def QueueFirstSaid : Prop := queueFirstRow.holds Try.pinned (OpenSpec.ofChange queueFirstSpec)

/-- ITS FALSE NEIGHBOUR: 'it returns false'. Refute it at one input. -/
def queueFirstWrong : ChangeSpec := { name := "queueFirst", fn := fun _ => fun
  | [d1, d2] => { results := [.lit (.bool false)], args := [d1, d2] }
  | _ => none }
def QueueFirstWrongFalsely : Prop := queueFirstRow.holds Try.pinned (OpenSpec.ofChange queueFirstWrong)

/-- 'spinnakerlaw20.QueueDepths': WHATEVER THE INPUT: true; the input reads as it did. -/
def queueDepthsSpec : ChangeSpec := { name := "queueDepths", fn := fun _ => fun
  | [d1, d2, d3] => { results := [.lit (.bool true)], args := [d1, d2, d3] }
  | _ => none }
def queueDepthsRow : OpenClaim := { program := "ytcdfoicebcmlaaa", sum := "63cd5b1ad74154eb60db36b0a989f384367dccacf1c988288b32bdae98bf0f93", func := "spinnaker/spinnakerlaw20.QueueDepths", spec := "queueDepths", apart := false }
def QueueDepthsSaid : Prop := queueDepthsRow.holds Try.pinned (OpenSpec.ofChange queueDepthsSpec)

/-- ITS FALSE NEIGHBOUR: 'it returns false'. Refute it at one input. -/
def queueDepthsWrong : ChangeSpec := { name := "queueDepths", fn := fun _ => fun
  | [d1, d2, d3] => { results := [.lit (.bool false)], args := [d1, d2, d3] }
  | _ => none }
def QueueDepthsWrongFalsely : Prop := queueDepthsRow.holds Try.pinned (OpenSpec.ofChange queueDepthsWrong)

/-- 'spinnakerlaw23.EventBounds': WHATEVER THE INPUT: true; the input reads as it did. -/
def eventBoundsSpec : ChangeSpec := { name := "eventBounds", fn := fun _ => fun
  | [d1, d2, d3] => { results := [.lit (.bool true)], args := [d1, d2, d3] }
  | _ => none }
def eventBoundsRow : OpenClaim := { program := "ytcdfoicebcmlaaa", sum := "63cd5b1ad74154eb60db36b0a989f384367dccacf1c988288b32bdae98bf0f93", func := "spinnaker/spinnakerlaw23.EventBounds", spec := "eventBounds", apart := false }
def EventBoundsSaid : Prop := eventBoundsRow.holds Try.pinned (OpenSpec.ofChange eventBoundsSpec)

/-- ITS FALSE NEIGHBOUR: 'it returns false'. Refute it at one input. -/
def eventBoundsWrong : ChangeSpec := { name := "eventBounds", fn := fun _ => fun
  | [d1, d2, d3] => { results := [.lit (.bool false)], args := [d1, d2, d3] }
  | _ => none }
def EventBoundsWrongFalsely : Prop := eventBoundsRow.holds Try.pinned (OpenSpec.ofChange eventBoundsWrong)

/-- 'spinnakerlaw23.EventAsks': WHATEVER THE INPUT: true; the input reads as it did. -/
def eventAsksSpec : ChangeSpec := { name := "eventAsks", fn := fun _ => fun
  | [d1, d2] => { results := [.lit (.bool true)], args := [d1, d2] }
  | _ => none }
def eventAsksRow : OpenClaim := { program := "ytcdfoicebcmlaaa", sum := "63cd5b1ad74154eb60db36b0a989f384367dccacf1c988288b32bdae98bf0f93", func := "spinnaker/spinnakerlaw23.EventAsks", spec := "eventAsks", apart := false }
def EventAsksSaid : Prop := eventAsksRow.holds Try.pinned (OpenSpec.ofChange eventAsksSpec)

/-- ITS FALSE NEIGHBOUR: 'it returns false'. Refute it at one input. -/
def eventAsksWrong : ChangeSpec := { name := "eventAsks", fn := fun _ => fun
  | [d1, d2] => { results := [.lit (.bool false)], args := [d1, d2] }
  | _ => none }
def EventAsksWrongFalsely : Prop := eventAsksRow.holds Try.pinned (OpenSpec.ofChange eventAsksWrong)

/-- 'spinnakerlaw23.EventBack': WHATEVER THE INPUT: true; the input reads as it did. -/
def eventBackSpec : ChangeSpec := { name := "eventBack", fn := fun _ => fun
  | [d1, d2] => { results := [.lit (.bool true)], args := [d1, d2] }
  | _ => none }
def eventBackRow : OpenClaim := { program := "ytcdfoicebcmlaaa", sum := "63cd5b1ad74154eb60db36b0a989f384367dccacf1c988288b32bdae98bf0f93", func := "spinnaker/spinnakerlaw23.EventBack", spec := "eventBack", apart := false }
def EventBackSaid : Prop := eventBackRow.holds Try.pinned (OpenSpec.ofChange eventBackSpec)

/-- ITS FALSE NEIGHBOUR: 'it returns false'. Refute it at one input. -/
def eventBackWrong : ChangeSpec := { name := "eventBack", fn := fun _ => fun
  | [d1, d2] => { results := [.lit (.bool false)], args := [d1, d2] }
  | _ => none }
def EventBackWrongFalsely : Prop := eventBackRow.holds Try.pinned (OpenSpec.ofChange eventBackWrong)

/-- 'spinnakerlaw23.EventRaw': WHATEVER THE INPUT: true; the input reads as it did. -/
def eventRawSpec : ChangeSpec := { name := "eventRaw", fn := fun _ => fun
  | [d] => { results := [.lit (.bool true)], args := [d] }
  | _ => none }
def eventRawRow : OpenClaim := { program := "ytcdfoicebcmlaaa", sum := "63cd5b1ad74154eb60db36b0a989f384367dccacf1c988288b32bdae98bf0f93", func := "spinnaker/spinnakerlaw23.EventRaw", spec := "eventRaw", apart := false }
def EventRawSaid : Prop := eventRawRow.holds Try.pinned (OpenSpec.ofChange eventRawSpec)

/-- ITS FALSE NEIGHBOUR: 'it returns false'. Refute it at one input. -/
def eventRawWrong : ChangeSpec := { name := "eventRaw", fn := fun _ => fun
  | [d] => { results := [.lit (.bool false)], args := [d] }
  | _ => none }
def EventRawWrongFalsely : Prop := eventRawRow.holds Try.pinned (OpenSpec.ofChange eventRawWrong)

/-- 'spinnakerlaw9.StatMany': WHATEVER THE INPUT: true; the input reads as it did. -/
def statManySpec : ChangeSpec := { name := "statMany", fn := fun _ => fun
  | [d1, d2, d3] => { results := [.lit (.bool true)], args := [d1, d2, d3] }
  | _ => none }
def statManyRow : OpenClaim := { program := "ytcdfoicebcmlaaa", sum := "63cd5b1ad74154eb60db36b0a989f384367dccacf1c988288b32bdae98bf0f93", func := "spinnaker/spinnakerlaw9.StatMany", spec := "statMany", apart := false }
def StatManySaid : Prop := statManyRow.holds Try.pinned (OpenSpec.ofChange statManySpec)

/-- ITS FALSE NEIGHBOUR: 'it returns false'. Refute it at one input. -/
def statManyWrong : ChangeSpec := { name := "statMany", fn := fun _ => fun
  | [d1, d2, d3] => { results := [.lit (.bool false)], args := [d1, d2, d3] }
  | _ => none }
def StatManyWrongFalsely : Prop := statManyRow.holds Try.pinned (OpenSpec.ofChange statManyWrong)

/-- 'spinnakerlaw9.StatAsks': WHATEVER THE INPUT: true; the input reads as it did. -/
def statAsksSpec : ChangeSpec := { name := "statAsks", fn := fun _ => fun
  | [d1, d2, d3] => { results := [.lit (.bool true)], args := [d1, d2, d3] }
  | _ => none }
def statAsksRow : OpenClaim := { program := "ytcdfoicebcmlaaa", sum := "63cd5b1ad74154eb60db36b0a989f384367dccacf1c988288b32bdae98bf0f93", func := "spinnaker/spinnakerlaw9.StatAsks", spec := "statAsks", apart := false }
def StatAsksSaid : Prop := statAsksRow.holds Try.pinned (OpenSpec.ofChange statAsksSpec)

/-- ITS FALSE NEIGHBOUR: 'it returns false'. Refute it at one input. -/
def statAsksWrong : ChangeSpec := { name := "statAsks", fn := fun _ => fun
  | [d1, d2, d3] => { results := [.lit (.bool false)], args := [d1, d2, d3] }
  | _ => none }
def StatAsksWrongFalsely : Prop := statAsksRow.holds Try.pinned (OpenSpec.ofChange statAsksWrong)

/-- 'spinnakerlaw9.StatAlike': WHATEVER THE INPUT: true; the input reads as it did. -/
def statAlikeSpec : ChangeSpec := { name := "statAlike", fn := fun _ => fun
  | [d1, d2, d3] => { results := [.lit (.bool true)], args := [d1, d2, d3] }
  | _ => none }
def statAlikeRow : OpenClaim := { program := "ytcdfoicebcmlaaa", sum := "63cd5b1ad74154eb60db36b0a989f384367dccacf1c988288b32bdae98bf0f93", func := "spinnaker/spinnakerlaw9.StatAlike", spec := "statAlike", apart := false }
def StatAlikeSaid : Prop := statAlikeRow.holds Try.pinned (OpenSpec.ofChange statAlikeSpec)

/-- ITS FALSE NEIGHBOUR: 'it returns false'. Refute it at one input. -/
def statAlikeWrong : ChangeSpec := { name := "statAlike", fn := fun _ => fun
  | [d1, d2, d3] => { results := [.lit (.bool false)], args := [d1, d2, d3] }
  | _ => none }
def StatAlikeWrongFalsely : Prop := statAlikeRow.holds Try.pinned (OpenSpec.ofChange statAlikeWrong)

/-- 'spinnakerlaw9.StatYoung': WHATEVER THE INPUT: true; the input reads as it did. -/
def statYoungSpec : ChangeSpec := { name := "statYoung", fn := fun _ => fun
  | [d1, d2] => { results := [.lit (.bool true)], args := [d1, d2] }
  | _ => none }
def statYoungRow : OpenClaim := { program := "ytcdfoicebcmlaaa", sum := "63cd5b1ad74154eb60db36b0a989f384367dccacf1c988288b32bdae98bf0f93", func := "spinnaker/spinnakerlaw9.StatYoung", spec := "statYoung", apart := false }
def StatYoungSaid : Prop := statYoungRow.holds Try.pinned (OpenSpec.ofChange statYoungSpec)

/-- ITS FALSE NEIGHBOUR: 'it returns false'. Refute it at one input. -/
def statYoungWrong : ChangeSpec := { name := "statYoung", fn := fun _ => fun
  | [d1, d2] => { results := [.lit (.bool false)], args := [d1, d2] }
  | _ => none }
def StatYoungWrongFalsely : Prop := statYoungRow.holds Try.pinned (OpenSpec.ofChange statYoungWrong)

/-- 'spinnakerlaw9.StatBetween': WHATEVER THE INPUT: true; the input reads as it did. -/
def statBetweenSpec : ChangeSpec := { name := "statBetween", fn := fun _ => fun
  | [d] => { results := [.lit (.bool true)], args := [d] }
  | _ => none }
def statBetweenRow : OpenClaim := { program := "ytcdfoicebcmlaaa", sum := "63cd5b1ad74154eb60db36b0a989f384367dccacf1c988288b32bdae98bf0f93", func := "spinnaker/spinnakerlaw9.StatBetween", spec := "statBetween", apart := false }
def StatBetweenSaid : Prop := statBetweenRow.holds Try.pinned (OpenSpec.ofChange statBetweenSpec)

/-- ITS FALSE NEIGHBOUR: 'it returns false'. Refute it at one input. -/
def statBetweenWrong : ChangeSpec := { name := "statBetween", fn := fun _ => fun
  | [d] => { results := [.lit (.bool false)], args := [d] }
  | _ => none }
def StatBetweenWrongFalsely : Prop := statBetweenRow.holds Try.pinned (OpenSpec.ofChange statBetweenWrong)

/- THE SECOND FORM. 'bulk': how many values and letters a reading holds, each counted each time it is reached (what is shared counts as often as it is met; a slice's spare places count too). A statement '..UptoSaid' is the law's where the arguments, and the package variables that the reading takes, are together of bulk at most 1048576: NARROWER than '..Said'. Prove '..Said' where nothing that the law and all that it calls make is longer than what came in: it says more and counts as full. Else prove '..UptoSaid'. A law counts once. -/
mutual
def uptoBulk {H : Type} : DataW H → Nat
  | .lit (.string bytes) => bytes.length + 1
  | .lit _ => 1
  | .nil => 1
  | .ptr d => uptoBulk d + 1
  | .slice elems spare => uptoBulkAll elems + uptoBulkAll spare + 1
  | .agg parts => uptoBulkAll parts + 1
  | .iface _ d => uptoBulk d + 1
  | .map entries => uptoBulkEntries entries + 1
  | .held _ => 1
def uptoBulkAll {H : Type} : List (DataW H) → Nat
  | [] => 0
  | d :: r => uptoBulk d + uptoBulkAll r
def uptoBulkEntries {H : Type} : List (Lit × DataW H) → Nat
  | [] => 0
  | x :: r => uptoBulkEntry x + uptoBulkEntries r
def uptoBulkEntry {H : Type} : Lit × DataW H → Nat
  | (.string bytes, d) => bytes.length + uptoBulk d + 1
  | (_, d) => uptoBulk d + 1
 end
def uptoSmall : (H : Type) → List (DataW H) → Bool := fun _ ds => decide (uptoBulkAll ds ≤ 1048576)
def OpenSpec.upto (s : _root_.Go.ChangeSpec) : _root_.Go.OpenSpec := { _root_.Go.OpenSpec.ofChange s with cond := some uptoSmall }

/-- 'spinnakerlaw10.SampleFew', WHERE WHAT IT READS IS OF BULK AT MOST 1048576: true; the input reads as it did. -/
def sampleFewUptoRow : OpenClaim := { program := "ytcdfoicebcmlaaa", sum := "63cd5b1ad74154eb60db36b0a989f384367dccacf1c988288b32bdae98bf0f93", func := "spinnaker/spinnakerlaw10.SampleFew", spec := "sampleFew", apart := false, narrowed := true }
def SampleFewUptoSaid : Prop := sampleFewUptoRow.holds Try.pinned (OpenSpec.upto sampleFewSpec)

/-- 'spinnakerlaw10.SampleAll', WHERE WHAT IT READS IS OF BULK AT MOST 1048576: true; the input reads as it did. -/
def sampleAllUptoRow : OpenClaim := { program := "ytcdfoicebcmlaaa", sum := "63cd5b1ad74154eb60db36b0a989f384367dccacf1c988288b32bdae98bf0f93", func := "spinnaker/spinnakerlaw10.SampleAll", spec := "sampleAll", apart := false, narrowed := true }
def SampleAllUptoSaid : Prop := sampleAllUptoRow.holds Try.pinned (OpenSpec.upto sampleAllSpec)

/-- 'spinnakerlaw10.SampleOrders', WHERE WHAT IT READS IS OF BULK AT MOST 1048576: true; the input reads as it did. -/
def sampleOrdersUptoRow : OpenClaim := { program := "ytcdfoicebcmlaaa", sum := "63cd5b1ad74154eb60db36b0a989f384367dccacf1c988288b32bdae98bf0f93", func := "spinnaker/spinnakerlaw10.SampleOrders", spec := "sampleOrders", apart := false, narrowed := true }
def SampleOrdersUptoSaid : Prop := sampleOrdersUptoRow.holds Try.pinned (OpenSpec.upto sampleOrdersSpec)

/-- 'spinnakerlaw20.QueueLate', WHERE WHAT IT READS IS OF BULK AT MOST 1048576: true; the input reads as it did. -/
def queueLateUptoRow : OpenClaim := { program := "ytcdfoicebcmlaaa", sum := "63cd5b1ad74154eb60db36b0a989f384367dccacf1c988288b32bdae98bf0f93", func := "spinnaker/spinnakerlaw20.QueueLate", spec := "queueLate", apart := false, narrowed := true }
def QueueLateUptoSaid : Prop := queueLateUptoRow.holds Try.pinned (OpenSpec.upto queueLateSpec)

/-- 'spinnakerlaw20.QueuePlays', WHERE WHAT IT READS IS OF BULK AT MOST 1048576: true; the input reads as it did. -/
def queuePlaysUptoRow : OpenClaim := { program := "ytcdfoicebcmlaaa", sum := "63cd5b1ad74154eb60db36b0a989f384367dccacf1c988288b32bdae98bf0f93", func := "spinnaker/spinnakerlaw20.QueuePlays", spec := "queuePlays", apart := false, narrowed := true }
def QueuePlaysUptoSaid : Prop := queuePlaysUptoRow.holds Try.pinned (OpenSpec.upto queuePlaysSpec)

/-- 'spinnakerlaw20.QueueFirst', WHERE WHAT IT READS IS OF BULK AT MOST 1048576: true; the input reads as it did. -/
def queueFirstUptoRow : OpenClaim := { program := "ytcdfoicebcmlaaa", sum := "63cd5b1ad74154eb60db36b0a989f384367dccacf1c988288b32bdae98bf0f93", func := "spinnaker/spinnakerlaw20.QueueFirst", spec := "queueFirst", apart := false, narrowed := true }
def QueueFirstUptoSaid : Prop := queueFirstUptoRow.holds Try.pinned (OpenSpec.upto queueFirstSpec)

/-- 'spinnakerlaw20.QueueDepths', WHERE WHAT IT READS IS OF BULK AT MOST 1048576: true; the input reads as it did. -/
def queueDepthsUptoRow : OpenClaim := { program := "ytcdfoicebcmlaaa", sum := "63cd5b1ad74154eb60db36b0a989f384367dccacf1c988288b32bdae98bf0f93", func := "spinnaker/spinnakerlaw20.QueueDepths", spec := "queueDepths", apart := false, narrowed := true }
def QueueDepthsUptoSaid : Prop := queueDepthsUptoRow.holds Try.pinned (OpenSpec.upto queueDepthsSpec)

/-- 'spinnakerlaw23.EventBounds', WHERE WHAT IT READS IS OF BULK AT MOST 1048576: true; the input reads as it did. -/
def eventBoundsUptoRow : OpenClaim := { program := "ytcdfoicebcmlaaa", sum := "63cd5b1ad74154eb60db36b0a989f384367dccacf1c988288b32bdae98bf0f93", func := "spinnaker/spinnakerlaw23.EventBounds", spec := "eventBounds", apart := false, narrowed := true }
def EventBoundsUptoSaid : Prop := eventBoundsUptoRow.holds Try.pinned (OpenSpec.upto eventBoundsSpec)

/-- 'spinnakerlaw23.EventAsks', WHERE WHAT IT READS IS OF BULK AT MOST 1048576: true; the input reads as it did. -/
def eventAsksUptoRow : OpenClaim := { program := "ytcdfoicebcmlaaa", sum := "63cd5b1ad74154eb60db36b0a989f384367dccacf1c988288b32bdae98bf0f93", func := "spinnaker/spinnakerlaw23.EventAsks", spec := "eventAsks", apart := false, narrowed := true }
def EventAsksUptoSaid : Prop := eventAsksUptoRow.holds Try.pinned (OpenSpec.upto eventAsksSpec)

/-- 'spinnakerlaw23.EventBack', WHERE WHAT IT READS IS OF BULK AT MOST 1048576: true; the input reads as it did. -/
def eventBackUptoRow : OpenClaim := { program := "ytcdfoicebcmlaaa", sum := "63cd5b1ad74154eb60db36b0a989f384367dccacf1c988288b32bdae98bf0f93", func := "spinnaker/spinnakerlaw23.EventBack", spec := "eventBack", apart := false, narrowed := true }
def EventBackUptoSaid : Prop := eventBackUptoRow.holds Try.pinned (OpenSpec.upto eventBackSpec)

/-- 'spinnakerlaw23.EventRaw', WHERE WHAT IT READS IS OF BULK AT MOST 1048576: true; the input reads as it did. -/
def eventRawUptoRow : OpenClaim := { program := "ytcdfoicebcmlaaa", sum := "63cd5b1ad74154eb60db36b0a989f384367dccacf1c988288b32bdae98bf0f93", func := "spinnaker/spinnakerlaw23.EventRaw", spec := "eventRaw", apart := false, narrowed := true }
def EventRawUptoSaid : Prop := eventRawUptoRow.holds Try.pinned (OpenSpec.upto eventRawSpec)

/-- 'spinnakerlaw9.StatMany', WHERE WHAT IT READS IS OF BULK AT MOST 1048576: true; the input reads as it did. -/
def statManyUptoRow : OpenClaim := { program := "ytcdfoicebcmlaaa", sum := "63cd5b1ad74154eb60db36b0a989f384367dccacf1c988288b32bdae98bf0f93", func := "spinnaker/spinnakerlaw9.StatMany", spec := "statMany", apart := false, narrowed := true }
def StatManyUptoSaid : Prop := statManyUptoRow.holds Try.pinned (OpenSpec.upto statManySpec)

/-- 'spinnakerlaw9.StatAsks', WHERE WHAT IT READS IS OF BULK AT MOST 1048576: true; the input reads as it did. -/
def statAsksUptoRow : OpenClaim := { program := "ytcdfoicebcmlaaa", sum := "63cd5b1ad74154eb60db36b0a989f384367dccacf1c988288b32bdae98bf0f93", func := "spinnaker/spinnakerlaw9.StatAsks", spec := "statAsks", apart := false, narrowed := true }
def StatAsksUptoSaid : Prop := statAsksUptoRow.holds Try.pinned (OpenSpec.upto statAsksSpec)

/-- 'spinnakerlaw9.StatAlike', WHERE WHAT IT READS IS OF BULK AT MOST 1048576: true; the input reads as it did. -/
def statAlikeUptoRow : OpenClaim := { program := "ytcdfoicebcmlaaa", sum := "63cd5b1ad74154eb60db36b0a989f384367dccacf1c988288b32bdae98bf0f93", func := "spinnaker/spinnakerlaw9.StatAlike", spec := "statAlike", apart := false, narrowed := true }
def StatAlikeUptoSaid : Prop := statAlikeUptoRow.holds Try.pinned (OpenSpec.upto statAlikeSpec)

/-- 'spinnakerlaw9.StatYoung', WHERE WHAT IT READS IS OF BULK AT MOST 1048576: true; the input reads as it did. -/
def statYoungUptoRow : OpenClaim := { program := "ytcdfoicebcmlaaa", sum := "63cd5b1ad74154eb60db36b0a989f384367dccacf1c988288b32bdae98bf0f93", func := "spinnaker/spinnakerlaw9.StatYoung", spec := "statYoung", apart := false, narrowed := true }
def StatYoungUptoSaid : Prop := statYoungUptoRow.holds Try.pinned (OpenSpec.upto statYoungSpec)

/-- 'spinnakerlaw9.StatBetween', WHERE WHAT IT READS IS OF BULK AT MOST 1048576: true; the input reads as it did. -/
def statBetweenUptoRow : OpenClaim := { program := "ytcdfoicebcmlaaa", sum := "63cd5b1ad74154eb60db36b0a989f384367dccacf1c988288b32bdae98bf0f93", func := "spinnaker/spinnakerlaw9.StatBetween", spec := "statBetween", apart := false, narrowed := true }
def StatBetweenUptoSaid : Prop := statBetweenUptoRow.holds Try.pinned (OpenSpec.upto statBetweenSpec)

end Rows
end Go.Proofs.Ytcdfoicebcmlaaa
