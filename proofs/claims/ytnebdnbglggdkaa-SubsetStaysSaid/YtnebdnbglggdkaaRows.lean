/-
  No cell of these rows narrows 'for every input' (looked for: loops, veiled, ifaces, maps, wideKeys, modest, calm, conditions, laid).
  DERIVED. THE GIVEN ROWS OF THIS SEAT. 13 by the template 'for every input the law returns true; each argument reads behind the call as it read before'; 0 by the template 'total and deterministic' (their statements: YtnebdnbglggdkaaTotals.lean).
  GIVEN WITH THE SEED: the statements are not yours to turn. If you find one false, say at which input.
  Laid BY PROGRAM, IN A SANDBOX (cutbox-rows.mjs): the forced cells as the released guide's own fill.sh prints them over the translation a37435363a7917fa… (all of the seat's roots in one cut). By AI agents, Wed Nov 11 2026. No macro, syntax, notation, axiom, sorry.
-/
import Derived.Test.YtnebdnbglggdkaaChecked
import GoSem.Claim
import GoSem.ClaimJoined
import GoSem.ClaimMapViews
import Derived.JoinedTies
import Derived.KernelRfl
namespace Go.Proofs.Ytnebdnbglggdkaa
/- THE CELL 'sum', in the pinned program and in every row, IS THE sha256 OF THE DUMP (.gsa) THAT YtnebdnbglggdkaaProg.lean LOADS. Nothing in Lean hashes anything: it is a label: what it is worth is what the hold of that sum in a sandbox is worth. -/
noncomputable def Try.pinned : Pinned := { name := "ytnebdnbglggdkaa", sum := "a37435363a7917fa0647941976b589e9f91729def35a81d282f606568b05adc7", checked := Try.checked }
namespace Rows
def none {H : Type} : Left H := { results := [], args := [] }

/-- 'spinnakerlaw25.TowerCounts': WHATEVER THE INPUT: true; the input reads as it did. -/
def towerCountsSpec : ChangeSpec := { name := "towerCounts", fn := fun _ => fun
  | [d1, d2, d3, d4] => { results := [.lit (.bool true)], args := [d1, d2, d3, d4] }
  | _ => none }
def towerCountsRow : OpenClaim := { program := "ytnebdnbglggdkaa", sum := "a37435363a7917fa0647941976b589e9f91729def35a81d282f606568b05adc7", func := "spinnaker/spinnakerlaw25.TowerCounts", spec := "towerCounts", apart := false }
def TowerCountsSaid : Prop := towerCountsRow.holds Try.pinned (OpenSpec.ofChange towerCountsSpec)

/-- ITS FALSE NEIGHBOUR: 'it returns false'. Refute it at one input. -/
def towerCountsWrong : ChangeSpec := { name := "towerCounts", fn := fun _ => fun
  | [d1, d2, d3, d4] => { results := [.lit (.bool false)], args := [d1, d2, d3, d4] }
  | _ => none }
def TowerCountsWrongFalsely : Prop := towerCountsRow.holds Try.pinned (OpenSpec.ofChange towerCountsWrong)

/-- 'spinnakerlaw25.TowerPods': WHATEVER THE INPUT: true; the input reads as it did. -/
def towerPodsSpec : ChangeSpec := { name := "towerPods", fn := fun _ => fun
  | [d1, d2, d3, d4] => { results := [.lit (.bool true)], args := [d1, d2, d3, d4] }
  | _ => none }
def towerPodsRow : OpenClaim := { program := "ytnebdnbglggdkaa", sum := "a37435363a7917fa0647941976b589e9f91729def35a81d282f606568b05adc7", func := "spinnaker/spinnakerlaw25.TowerPods", spec := "towerPods", apart := false }
def TowerPodsSaid : Prop := towerPodsRow.holds Try.pinned (OpenSpec.ofChange towerPodsSpec)

/-- ITS FALSE NEIGHBOUR: 'it returns false'. Refute it at one input. -/
def towerPodsWrong : ChangeSpec := { name := "towerPods", fn := fun _ => fun
  | [d1, d2, d3, d4] => { results := [.lit (.bool false)], args := [d1, d2, d3, d4] }
  | _ => none }
def TowerPodsWrongFalsely : Prop := towerPodsRow.holds Try.pinned (OpenSpec.ofChange towerPodsWrong)

/-- 'spinnakerlaw25.TowerBounds': WHATEVER THE INPUT: true; the input reads as it did. -/
def towerBoundsSpec : ChangeSpec := { name := "towerBounds", fn := fun _ => fun
  | [d1, d2, d3, d4, d5, d6] => { results := [.lit (.bool true)], args := [d1, d2, d3, d4, d5, d6] }
  | _ => none }
def towerBoundsRow : OpenClaim := { program := "ytnebdnbglggdkaa", sum := "a37435363a7917fa0647941976b589e9f91729def35a81d282f606568b05adc7", func := "spinnaker/spinnakerlaw25.TowerBounds", spec := "towerBounds", apart := false }
def TowerBoundsSaid : Prop := towerBoundsRow.holds Try.pinned (OpenSpec.ofChange towerBoundsSpec)

/-- ITS FALSE NEIGHBOUR: 'it returns false'. Refute it at one input. -/
def towerBoundsWrong : ChangeSpec := { name := "towerBounds", fn := fun _ => fun
  | [d1, d2, d3, d4, d5, d6] => { results := [.lit (.bool false)], args := [d1, d2, d3, d4, d5, d6] }
  | _ => none }
def TowerBoundsWrongFalsely : Prop := towerBoundsRow.holds Try.pinned (OpenSpec.ofChange towerBoundsWrong)

/-- 'spinnakerlaw21.LifeCrashes': WHATEVER THE INPUT: true; the input reads as it did. -/
def lifeCrashesSpec : ChangeSpec := { name := "lifeCrashes", fn := fun _ => fun
  | [d1, d2, d3] => { results := [.lit (.bool true)], args := [d1, d2, d3] }
  | _ => none }
def lifeCrashesRow : OpenClaim := { program := "ytnebdnbglggdkaa", sum := "a37435363a7917fa0647941976b589e9f91729def35a81d282f606568b05adc7", func := "spinnaker/spinnakerlaw21.LifeCrashes", spec := "lifeCrashes", unfollowed := true, recurses := true, apart := false }
def LifeCrashesSaid : Prop := lifeCrashesRow.holds Try.pinned (OpenSpec.ofChange lifeCrashesSpec)

/-- ITS FALSE NEIGHBOUR: 'it returns false'. Refute it at one input. -/
def lifeCrashesWrong : ChangeSpec := { name := "lifeCrashes", fn := fun _ => fun
  | [d1, d2, d3] => { results := [.lit (.bool false)], args := [d1, d2, d3] }
  | _ => none }
def LifeCrashesWrongFalsely : Prop := lifeCrashesRow.holds Try.pinned (OpenSpec.ofChange lifeCrashesWrong)

/-- 'spinnakerlaw21.LifeGoes': WHATEVER THE INPUT: true; the input reads as it did. -/
def lifeGoesSpec : ChangeSpec := { name := "lifeGoes", fn := fun _ => fun
  | [d1, d2, d3] => { results := [.lit (.bool true)], args := [d1, d2, d3] }
  | _ => none }
def lifeGoesRow : OpenClaim := { program := "ytnebdnbglggdkaa", sum := "a37435363a7917fa0647941976b589e9f91729def35a81d282f606568b05adc7", func := "spinnaker/spinnakerlaw21.LifeGoes", spec := "lifeGoes", unfollowed := true, recurses := true, apart := false }
def LifeGoesSaid : Prop := lifeGoesRow.holds Try.pinned (OpenSpec.ofChange lifeGoesSpec)

/-- ITS FALSE NEIGHBOUR: 'it returns false'. Refute it at one input. -/
def lifeGoesWrong : ChangeSpec := { name := "lifeGoes", fn := fun _ => fun
  | [d1, d2, d3] => { results := [.lit (.bool false)], args := [d1, d2, d3] }
  | _ => none }
def LifeGoesWrongFalsely : Prop := lifeGoesRow.holds Try.pinned (OpenSpec.ofChange lifeGoesWrong)

/-- 'spinnakerlaw21.LifeNumbers': WHATEVER THE INPUT: true; the input reads as it did. -/
def lifeNumbersSpec : ChangeSpec := { name := "lifeNumbers", fn := fun _ => fun
  | [d] => { results := [.lit (.bool true)], args := [d] }
  | _ => none }
def lifeNumbersRow : OpenClaim := { program := "ytnebdnbglggdkaa", sum := "a37435363a7917fa0647941976b589e9f91729def35a81d282f606568b05adc7", func := "spinnaker/spinnakerlaw21.LifeNumbers", spec := "lifeNumbers", unfollowed := true, recurses := true, apart := false }
def LifeNumbersSaid : Prop := lifeNumbersRow.holds Try.pinned (OpenSpec.ofChange lifeNumbersSpec)

/-- ITS FALSE NEIGHBOUR: 'it returns false'. Refute it at one input. -/
def lifeNumbersWrong : ChangeSpec := { name := "lifeNumbers", fn := fun _ => fun
  | [d] => { results := [.lit (.bool false)], args := [d] }
  | _ => none }
def LifeNumbersWrongFalsely : Prop := lifeNumbersRow.holds Try.pinned (OpenSpec.ofChange lifeNumbersWrong)

/-- 'spinnakerlaw21.LifePlays': WHATEVER THE INPUT: true; the input reads as it did. -/
def lifePlaysSpec : ChangeSpec := { name := "lifePlays", fn := fun _ => fun
  | [d] => { results := [.lit (.bool true)], args := [d] }
  | _ => none }
def lifePlaysRow : OpenClaim := { program := "ytnebdnbglggdkaa", sum := "a37435363a7917fa0647941976b589e9f91729def35a81d282f606568b05adc7", func := "spinnaker/spinnakerlaw21.LifePlays", spec := "lifePlays", unfollowed := true, recurses := true, apart := false }
def LifePlaysSaid : Prop := lifePlaysRow.holds Try.pinned (OpenSpec.ofChange lifePlaysSpec)

/-- ITS FALSE NEIGHBOUR: 'it returns false'. Refute it at one input. -/
def lifePlaysWrong : ChangeSpec := { name := "lifePlays", fn := fun _ => fun
  | [d] => { results := [.lit (.bool false)], args := [d] }
  | _ => none }
def LifePlaysWrongFalsely : Prop := lifePlaysRow.holds Try.pinned (OpenSpec.ofChange lifePlaysWrong)

/-- 'spinnakerlaw21.LifeCounts': WHATEVER THE INPUT: true; the input reads as it did. -/
def lifeCountsSpec : ChangeSpec := { name := "lifeCounts", fn := fun _ => fun
  | [d1, d2] => { results := [.lit (.bool true)], args := [d1, d2] }
  | _ => none }
def lifeCountsRow : OpenClaim := { program := "ytnebdnbglggdkaa", sum := "a37435363a7917fa0647941976b589e9f91729def35a81d282f606568b05adc7", func := "spinnaker/spinnakerlaw21.LifeCounts", spec := "lifeCounts", unfollowed := true, recurses := true, apart := false }
def LifeCountsSaid : Prop := lifeCountsRow.holds Try.pinned (OpenSpec.ofChange lifeCountsSpec)

/-- ITS FALSE NEIGHBOUR: 'it returns false'. Refute it at one input. -/
def lifeCountsWrong : ChangeSpec := { name := "lifeCounts", fn := fun _ => fun
  | [d1, d2] => { results := [.lit (.bool false)], args := [d1, d2] }
  | _ => none }
def LifeCountsWrongFalsely : Prop := lifeCountsRow.holds Try.pinned (OpenSpec.ofChange lifeCountsWrong)

/-- 'spinnakerlaw21.LifeRipens': WHATEVER THE INPUT: true; the input reads as it did. -/
def lifeRipensSpec : ChangeSpec := { name := "lifeRipens", fn := fun _ => fun
  | [d1, d2, d3] => { results := [.lit (.bool true)], args := [d1, d2, d3] }
  | _ => none }
def lifeRipensRow : OpenClaim := { program := "ytnebdnbglggdkaa", sum := "a37435363a7917fa0647941976b589e9f91729def35a81d282f606568b05adc7", func := "spinnaker/spinnakerlaw21.LifeRipens", spec := "lifeRipens", unfollowed := true, recurses := true, apart := false }
def LifeRipensSaid : Prop := lifeRipensRow.holds Try.pinned (OpenSpec.ofChange lifeRipensSpec)

/-- ITS FALSE NEIGHBOUR: 'it returns false'. Refute it at one input. -/
def lifeRipensWrong : ChangeSpec := { name := "lifeRipens", fn := fun _ => fun
  | [d1, d2, d3] => { results := [.lit (.bool false)], args := [d1, d2, d3] }
  | _ => none }
def LifeRipensWrongFalsely : Prop := lifeRipensRow.holds Try.pinned (OpenSpec.ofChange lifeRipensWrong)

/-- 'spinnakerlaw18.SubsetOne': WHATEVER THE INPUT: true; the input reads as it did. -/
def subsetOneSpec : ChangeSpec := { name := "subsetOne", fn := fun _ => fun
  | [d1, d2] => { results := [.lit (.bool true)], args := [d1, d2] }
  | _ => none }
def subsetOneRow : OpenClaim := { program := "ytnebdnbglggdkaa", sum := "a37435363a7917fa0647941976b589e9f91729def35a81d282f606568b05adc7", func := "spinnaker/spinnakerlaw18.SubsetOne", spec := "subsetOne", unfollowed := true, recurses := true, apart := false }
def SubsetOneSaid : Prop := subsetOneRow.holds Try.pinned (OpenSpec.ofChange subsetOneSpec)

/-- ITS FALSE NEIGHBOUR: 'it returns false'. Refute it at one input. -/
def subsetOneWrong : ChangeSpec := { name := "subsetOne", fn := fun _ => fun
  | [d1, d2] => { results := [.lit (.bool false)], args := [d1, d2] }
  | _ => none }
def SubsetOneWrongFalsely : Prop := subsetOneRow.holds Try.pinned (OpenSpec.ofChange subsetOneWrong)

/-- 'spinnakerlaw18.SubsetAsks': WHATEVER THE INPUT: true; the input reads as it did. -/
def subsetAsksSpec : ChangeSpec := { name := "subsetAsks", fn := fun _ => fun
  | [d1, d2, d3] => { results := [.lit (.bool true)], args := [d1, d2, d3] }
  | _ => none }
def subsetAsksRow : OpenClaim := { program := "ytnebdnbglggdkaa", sum := "a37435363a7917fa0647941976b589e9f91729def35a81d282f606568b05adc7", func := "spinnaker/spinnakerlaw18.SubsetAsks", spec := "subsetAsks", unfollowed := true, recurses := true, apart := false }
def SubsetAsksSaid : Prop := subsetAsksRow.holds Try.pinned (OpenSpec.ofChange subsetAsksSpec)

/-- ITS FALSE NEIGHBOUR: 'it returns false'. Refute it at one input. -/
def subsetAsksWrong : ChangeSpec := { name := "subsetAsks", fn := fun _ => fun
  | [d1, d2, d3] => { results := [.lit (.bool false)], args := [d1, d2, d3] }
  | _ => none }
def SubsetAsksWrongFalsely : Prop := subsetAsksRow.holds Try.pinned (OpenSpec.ofChange subsetAsksWrong)

/-- 'spinnakerlaw18.SubsetStays': WHATEVER THE INPUT: true; the input reads as it did. -/
def subsetStaysSpec : ChangeSpec := { name := "subsetStays", fn := fun _ => fun
  | [d1, d2, d3, d4] => { results := [.lit (.bool true)], args := [d1, d2, d3, d4] }
  | _ => none }
def subsetStaysRow : OpenClaim := { program := "ytnebdnbglggdkaa", sum := "a37435363a7917fa0647941976b589e9f91729def35a81d282f606568b05adc7", func := "spinnaker/spinnakerlaw18.SubsetStays", spec := "subsetStays", unfollowed := true, recurses := true, apart := false }
def SubsetStaysSaid : Prop := subsetStaysRow.holds Try.pinned (OpenSpec.ofChange subsetStaysSpec)

/-- ITS FALSE NEIGHBOUR: 'it returns false'. Refute it at one input. -/
def subsetStaysWrong : ChangeSpec := { name := "subsetStays", fn := fun _ => fun
  | [d1, d2, d3, d4] => { results := [.lit (.bool false)], args := [d1, d2, d3, d4] }
  | _ => none }
def SubsetStaysWrongFalsely : Prop := subsetStaysRow.holds Try.pinned (OpenSpec.ofChange subsetStaysWrong)

/-- 'spinnakerlaw18.SubsetParts': WHATEVER THE INPUT: true; the input reads as it did. -/
def subsetPartsSpec : ChangeSpec := { name := "subsetParts", fn := fun _ => fun
  | [d1, d2, d3, d4] => { results := [.lit (.bool true)], args := [d1, d2, d3, d4] }
  | _ => none }
def subsetPartsRow : OpenClaim := { program := "ytnebdnbglggdkaa", sum := "a37435363a7917fa0647941976b589e9f91729def35a81d282f606568b05adc7", func := "spinnaker/spinnakerlaw18.SubsetParts", spec := "subsetParts", unfollowed := true, recurses := true, apart := false }
def SubsetPartsSaid : Prop := subsetPartsRow.holds Try.pinned (OpenSpec.ofChange subsetPartsSpec)

/-- ITS FALSE NEIGHBOUR: 'it returns false'. Refute it at one input. -/
def subsetPartsWrong : ChangeSpec := { name := "subsetParts", fn := fun _ => fun
  | [d1, d2, d3, d4] => { results := [.lit (.bool false)], args := [d1, d2, d3, d4] }
  | _ => none }
def SubsetPartsWrongFalsely : Prop := subsetPartsRow.holds Try.pinned (OpenSpec.ofChange subsetPartsWrong)

/- THE SECOND FORM. 'bulk': how many values and letters a reading holds, each counted each time it is reached (what is shared counts as often as it is met; a slice's spare places count too). A statement '..UptoSaid' is the law's where the arguments, and the package variables that the reading takes, are together of bulk at most 1048576: NARROWER than '..Said'. Prove '..Said' where nothing that the law and all that it calls make is longer than what came in: it says more and counts as full. Else prove '..UptoSaid'. A law counts once. -/
mutual
def uptoBulk {H : Type} : DataW H → Nat
  | .lit (.string bytes) => bytes.length + 1
  | .lit _ => 1
  | .nil => 1
  | .ptr d => uptoBulk d + 1
  | .slice elems spare => uptoBulkAll elems + uptoBulkAll spare + 1
  | .agg parts => uptoBulkAll parts + 1
  | .iface _ d => uptoBulk d + 1
  | .map entries => uptoBulkEntries entries + 1
  | .held _ => 1
def uptoBulkAll {H : Type} : List (DataW H) → Nat
  | [] => 0
  | d :: r => uptoBulk d + uptoBulkAll r
def uptoBulkEntries {H : Type} : List (Lit × DataW H) → Nat
  | [] => 0
  | x :: r => uptoBulkEntry x + uptoBulkEntries r
def uptoBulkEntry {H : Type} : Lit × DataW H → Nat
  | (.string bytes, d) => bytes.length + uptoBulk d + 1
  | (_, d) => uptoBulk d + 1
 end
def uptoSmall : (H : Type) → List (DataW H) → Bool := fun _ ds => decide (uptoBulkAll ds ≤ 1048576)
def OpenSpec.upto (s : _root_.Go.ChangeSpec) : _root_.Go.OpenSpec := { _root_.Go.OpenSpec.ofChange s with cond := some uptoSmall }

/-- 'spinnakerlaw25.TowerCounts', WHERE WHAT IT READS IS OF BULK AT MOST 1048576: true; the input reads as it did. -/
def towerCountsUptoRow : OpenClaim := { program := "ytnebdnbglggdkaa", sum := "a37435363a7917fa0647941976b589e9f91729def35a81d282f606568b05adc7", func := "spinnaker/spinnakerlaw25.TowerCounts", spec := "towerCounts", apart := false, narrowed := true }
def TowerCountsUptoSaid : Prop := towerCountsUptoRow.holds Try.pinned (OpenSpec.upto towerCountsSpec)

/-- 'spinnakerlaw25.TowerPods', WHERE WHAT IT READS IS OF BULK AT MOST 1048576: true; the input reads as it did. -/
def towerPodsUptoRow : OpenClaim := { program := "ytnebdnbglggdkaa", sum := "a37435363a7917fa0647941976b589e9f91729def35a81d282f606568b05adc7", func := "spinnaker/spinnakerlaw25.TowerPods", spec := "towerPods", apart := false, narrowed := true }
def TowerPodsUptoSaid : Prop := towerPodsUptoRow.holds Try.pinned (OpenSpec.upto towerPodsSpec)

/-- 'spinnakerlaw25.TowerBounds', WHERE WHAT IT READS IS OF BULK AT MOST 1048576: true; the input reads as it did. -/
def towerBoundsUptoRow : OpenClaim := { program := "ytnebdnbglggdkaa", sum := "a37435363a7917fa0647941976b589e9f91729def35a81d282f606568b05adc7", func := "spinnaker/spinnakerlaw25.TowerBounds", spec := "towerBounds", apart := false, narrowed := true }
def TowerBoundsUptoSaid : Prop := towerBoundsUptoRow.holds Try.pinned (OpenSpec.upto towerBoundsSpec)

/-- 'spinnakerlaw21.LifeCrashes', WHERE WHAT IT READS IS OF BULK AT MOST 1048576: true; the input reads as it did. -/
def lifeCrashesUptoRow : OpenClaim := { program := "ytnebdnbglggdkaa", sum := "a37435363a7917fa0647941976b589e9f91729def35a81d282f606568b05adc7", func := "spinnaker/spinnakerlaw21.LifeCrashes", spec := "lifeCrashes", unfollowed := true, recurses := true, apart := false, narrowed := true }
def LifeCrashesUptoSaid : Prop := lifeCrashesUptoRow.holds Try.pinned (OpenSpec.upto lifeCrashesSpec)

/-- 'spinnakerlaw21.LifeGoes', WHERE WHAT IT READS IS OF BULK AT MOST 1048576: true; the input reads as it did. -/
def lifeGoesUptoRow : OpenClaim := { program := "ytnebdnbglggdkaa", sum := "a37435363a7917fa0647941976b589e9f91729def35a81d282f606568b05adc7", func := "spinnaker/spinnakerlaw21.LifeGoes", spec := "lifeGoes", unfollowed := true, recurses := true, apart := false, narrowed := true }
def LifeGoesUptoSaid : Prop := lifeGoesUptoRow.holds Try.pinned (OpenSpec.upto lifeGoesSpec)

/-- 'spinnakerlaw21.LifeNumbers', WHERE WHAT IT READS IS OF BULK AT MOST 1048576: true; the input reads as it did. -/
def lifeNumbersUptoRow : OpenClaim := { program := "ytnebdnbglggdkaa", sum := "a37435363a7917fa0647941976b589e9f91729def35a81d282f606568b05adc7", func := "spinnaker/spinnakerlaw21.LifeNumbers", spec := "lifeNumbers", unfollowed := true, recurses := true, apart := false, narrowed := true }
def LifeNumbersUptoSaid : Prop := lifeNumbersUptoRow.holds Try.pinned (OpenSpec.upto lifeNumbersSpec)

/-- 'spinnakerlaw21.LifePlays', WHERE WHAT IT READS IS OF BULK AT MOST 1048576: true; the input reads as it did. -/
def lifePlaysUptoRow : OpenClaim := { program := "ytnebdnbglggdkaa", sum := "a37435363a7917fa0647941976b589e9f91729def35a81d282f606568b05adc7", func := "spinnaker/spinnakerlaw21.LifePlays", spec := "lifePlays", unfollowed := true, recurses := true, apart := false, narrowed := true }
def LifePlaysUptoSaid : Prop := lifePlaysUptoRow.holds Try.pinned (OpenSpec.upto lifePlaysSpec)

/-- 'spinnakerlaw21.LifeCounts', WHERE WHAT IT READS IS OF BULK AT MOST 1048576: true; the input reads as it did. -/
def lifeCountsUptoRow : OpenClaim := { program := "ytnebdnbglggdkaa", sum := "a37435363a7917fa0647941976b589e9f91729def35a81d282f606568b05adc7", func := "spinnaker/spinnakerlaw21.LifeCounts", spec := "lifeCounts", unfollowed := true, recurses := true, apart := false, narrowed := true }
def LifeCountsUptoSaid : Prop := lifeCountsUptoRow.holds Try.pinned (OpenSpec.upto lifeCountsSpec)

/-- 'spinnakerlaw21.LifeRipens', WHERE WHAT IT READS IS OF BULK AT MOST 1048576: true; the input reads as it did. -/
def lifeRipensUptoRow : OpenClaim := { program := "ytnebdnbglggdkaa", sum := "a37435363a7917fa0647941976b589e9f91729def35a81d282f606568b05adc7", func := "spinnaker/spinnakerlaw21.LifeRipens", spec := "lifeRipens", unfollowed := true, recurses := true, apart := false, narrowed := true }
def LifeRipensUptoSaid : Prop := lifeRipensUptoRow.holds Try.pinned (OpenSpec.upto lifeRipensSpec)

/-- 'spinnakerlaw18.SubsetOne', WHERE WHAT IT READS IS OF BULK AT MOST 1048576: true; the input reads as it did. -/
def subsetOneUptoRow : OpenClaim := { program := "ytnebdnbglggdkaa", sum := "a37435363a7917fa0647941976b589e9f91729def35a81d282f606568b05adc7", func := "spinnaker/spinnakerlaw18.SubsetOne", spec := "subsetOne", unfollowed := true, recurses := true, apart := false, narrowed := true }
def SubsetOneUptoSaid : Prop := subsetOneUptoRow.holds Try.pinned (OpenSpec.upto subsetOneSpec)

/-- 'spinnakerlaw18.SubsetAsks', WHERE WHAT IT READS IS OF BULK AT MOST 1048576: true; the input reads as it did. -/
def subsetAsksUptoRow : OpenClaim := { program := "ytnebdnbglggdkaa", sum := "a37435363a7917fa0647941976b589e9f91729def35a81d282f606568b05adc7", func := "spinnaker/spinnakerlaw18.SubsetAsks", spec := "subsetAsks", unfollowed := true, recurses := true, apart := false, narrowed := true }
def SubsetAsksUptoSaid : Prop := subsetAsksUptoRow.holds Try.pinned (OpenSpec.upto subsetAsksSpec)

/-- 'spinnakerlaw18.SubsetStays', WHERE WHAT IT READS IS OF BULK AT MOST 1048576: true; the input reads as it did. -/
def subsetStaysUptoRow : OpenClaim := { program := "ytnebdnbglggdkaa", sum := "a37435363a7917fa0647941976b589e9f91729def35a81d282f606568b05adc7", func := "spinnaker/spinnakerlaw18.SubsetStays", spec := "subsetStays", unfollowed := true, recurses := true, apart := false, narrowed := true }
def SubsetStaysUptoSaid : Prop := subsetStaysUptoRow.holds Try.pinned (OpenSpec.upto subsetStaysSpec)

/-- 'spinnakerlaw18.SubsetParts', WHERE WHAT IT READS IS OF BULK AT MOST 1048576: true; the input reads as it did. -/
def subsetPartsUptoRow : OpenClaim := { program := "ytnebdnbglggdkaa", sum := "a37435363a7917fa0647941976b589e9f91729def35a81d282f606568b05adc7", func := "spinnaker/spinnakerlaw18.SubsetParts", spec := "subsetParts", unfollowed := true, recurses := true, apart := false, narrowed := true }
def SubsetPartsUptoSaid : Prop := subsetPartsUptoRow.holds Try.pinned (OpenSpec.upto subsetPartsSpec)

end Rows
end Go.Proofs.Ytnebdnbglggdkaa
