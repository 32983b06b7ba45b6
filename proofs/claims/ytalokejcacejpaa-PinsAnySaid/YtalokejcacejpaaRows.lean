/-
  No cell of these rows narrows 'for every input' (looked for: loops, veiled, ifaces, maps, wideKeys, modest, calm, conditions, laid).
  DERIVED. THE GIVEN ROWS OF THIS SEAT. 5 by the template 'for every input the law returns true; each argument reads behind the call as it read before'; 0 by the template 'total and deterministic' (their statements: YtalokejcacejpaaTotals.lean).
  GIVEN WITH THE SEED: the statements are not yours to turn. If you find one false, say at which input.
  Laid BY PROGRAM, IN A SANDBOX (cutbox-rows.mjs): the forced cells as the released guide's own fill.sh prints them over the translation 7504b5de00054666… (all of the seat's roots in one cut). By AI agents, Wed Nov 11 2026. No macro, syntax, notation, axiom, sorry.
-/
import Derived.Test.YtalokejcacejpaaChecked
import GoSem.Claim
import GoSem.ClaimJoined
import GoSem.ClaimMapViews
import Derived.JoinedTies
import Derived.KernelRfl
namespace Go.Proofs.Ytalokejcacejpaa
/- THE CELL 'sum', in the pinned program and in every row, IS THE sha256 OF THE DUMP (.gsa) THAT YtalokejcacejpaaProg.lean LOADS. Nothing in Lean hashes anything: it is a label: what it is worth is what the hold of that sum in a sandbox is worth. -/
noncomputable def Try.pinned : Pinned := { name := "ytalokejcacejpaa", sum := "7504b5de00054666f6267b0dfecefba2b9fb6a5aff7b01fb5bc2c6d5861f80d5", checked := Try.checked }
namespace Rows
def none {H : Type} : Left H := { results := [], args := [] }

/-- 'countersignlaw09.PinsGoes': WHATEVER THE INPUT: true; the input reads as it did. -/
def pinsGoesSpec : ChangeSpec := { name := "pinsGoes", fn := fun _ => fun
  | [d1, d2, d3] => { results := [.lit (.bool true)], args := [d1, d2, d3] }
  | _ => none }
def pinsGoesRow : OpenClaim := { program := "ytalokejcacejpaa", sum := "7504b5de00054666f6267b0dfecefba2b9fb6a5aff7b01fb5bc2c6d5861f80d5", func := "countersign/countersignlaw09.PinsGoes", spec := "pinsGoes", inPlace := ["slices.overlaps[countersign/pins.pin]"], unfollowed := true, recurses := true, apart := false }
def PinsGoesSaid : Prop := pinsGoesRow.holds Try.pinned (OpenSpec.ofChange pinsGoesSpec)

/-- ITS FALSE NEIGHBOUR: 'it returns false'. Refute it at one input. -/
def pinsGoesWrong : ChangeSpec := { name := "pinsGoes", fn := fun _ => fun
  | [d1, d2, d3] => { results := [.lit (.bool false)], args := [d1, d2, d3] }
  | _ => none }
def PinsGoesWrongFalsely : Prop := pinsGoesRow.holds Try.pinned (OpenSpec.ofChange pinsGoesWrong)

/-- 'countersignlaw09.PinsMore': WHATEVER THE INPUT: true; the input reads as it did. -/
def pinsMoreSpec : ChangeSpec := { name := "pinsMore", fn := fun _ => fun
  | [d1, d2, d3] => { results := [.lit (.bool true)], args := [d1, d2, d3] }
  | _ => none }
def pinsMoreRow : OpenClaim := { program := "ytalokejcacejpaa", sum := "7504b5de00054666f6267b0dfecefba2b9fb6a5aff7b01fb5bc2c6d5861f80d5", func := "countersign/countersignlaw09.PinsMore", spec := "pinsMore", inPlace := ["slices.overlaps[countersign/pins.pin]"], unfollowed := true, recurses := true, apart := false }
def PinsMoreSaid : Prop := pinsMoreRow.holds Try.pinned (OpenSpec.ofChange pinsMoreSpec)

/-- ITS FALSE NEIGHBOUR: 'it returns false'. Refute it at one input. -/
def pinsMoreWrong : ChangeSpec := { name := "pinsMore", fn := fun _ => fun
  | [d1, d2, d3] => { results := [.lit (.bool false)], args := [d1, d2, d3] }
  | _ => none }
def PinsMoreWrongFalsely : Prop := pinsMoreRow.holds Try.pinned (OpenSpec.ofChange pinsMoreWrong)

/-- 'countersignlaw09.PinsKnown': WHATEVER THE INPUT: true; the input reads as it did. -/
def pinsKnownSpec : ChangeSpec := { name := "pinsKnown", fn := fun _ => fun
  | [] => { results := [.lit (.bool true)], args := [] }
  | _ => none }
def pinsKnownRow : OpenClaim := { program := "ytalokejcacejpaa", sum := "7504b5de00054666f6267b0dfecefba2b9fb6a5aff7b01fb5bc2c6d5861f80d5", func := "countersign/countersignlaw09.PinsKnown", spec := "pinsKnown", inPlace := ["slices.overlaps[countersign/pins.pin]"], unfollowed := true, recurses := true, apart := false }
def PinsKnownSaid : Prop := pinsKnownRow.holds Try.pinned (OpenSpec.ofChange pinsKnownSpec)

/-- ITS FALSE NEIGHBOUR: 'it returns false'. Refute it at one input. -/
def pinsKnownWrong : ChangeSpec := { name := "pinsKnown", fn := fun _ => fun
  | [] => { results := [.lit (.bool false)], args := [] }
  | _ => none }
def PinsKnownWrongFalsely : Prop := pinsKnownRow.holds Try.pinned (OpenSpec.ofChange pinsKnownWrong)

/-- 'countersignlaw09.PinsPlay': WHATEVER THE INPUT: true; the input reads as it did. -/
def pinsPlaySpec : ChangeSpec := { name := "pinsPlay", fn := fun _ => fun
  | [d] => { results := [.lit (.bool true)], args := [d] }
  | _ => none }
def pinsPlayRow : OpenClaim := { program := "ytalokejcacejpaa", sum := "7504b5de00054666f6267b0dfecefba2b9fb6a5aff7b01fb5bc2c6d5861f80d5", func := "countersign/countersignlaw09.PinsPlay", spec := "pinsPlay", inPlace := ["slices.overlaps[countersign/pins.pin]"], unfollowed := true, recurses := true, apart := false }
def PinsPlaySaid : Prop := pinsPlayRow.holds Try.pinned (OpenSpec.ofChange pinsPlaySpec)

/-- ITS FALSE NEIGHBOUR: 'it returns false'. Refute it at one input. -/
def pinsPlayWrong : ChangeSpec := { name := "pinsPlay", fn := fun _ => fun
  | [d] => { results := [.lit (.bool false)], args := [d] }
  | _ => none }
def PinsPlayWrongFalsely : Prop := pinsPlayRow.holds Try.pinned (OpenSpec.ofChange pinsPlayWrong)

/-- 'countersignlaw09.PinsAny': WHATEVER THE INPUT: true; the input reads as it did. -/
def pinsAnySpec : ChangeSpec := { name := "pinsAny", fn := fun _ => fun
  | [d1, d2, d3] => { results := [.lit (.bool true)], args := [d1, d2, d3] }
  | _ => none }
def pinsAnyRow : OpenClaim := { program := "ytalokejcacejpaa", sum := "7504b5de00054666f6267b0dfecefba2b9fb6a5aff7b01fb5bc2c6d5861f80d5", func := "countersign/countersignlaw09.PinsAny", spec := "pinsAny", inPlace := ["slices.overlaps[countersign/pins.pin]"], unfollowed := true, recurses := true, apart := false }
def PinsAnySaid : Prop := pinsAnyRow.holds Try.pinned (OpenSpec.ofChange pinsAnySpec)

/-- ITS FALSE NEIGHBOUR: 'it returns false'. Refute it at one input. -/
def pinsAnyWrong : ChangeSpec := { name := "pinsAny", fn := fun _ => fun
  | [d1, d2, d3] => { results := [.lit (.bool false)], args := [d1, d2, d3] }
  | _ => none }
def PinsAnyWrongFalsely : Prop := pinsAnyRow.holds Try.pinned (OpenSpec.ofChange pinsAnyWrong)

/- THE SECOND FORM. 'bulk': how many values and letters a reading holds, each counted each time it is reached (what is shared counts as often as it is met; a slice's spare places count too). A statement '..UptoSaid' is the law's where the arguments, and the package variables that the reading takes, are together of bulk at most 1048576: NARROWER than '..Said'. Prove '..Said' where nothing that the law and all that it calls make is longer than what came in: it says more and counts as full. Else prove '..UptoSaid'. A law counts once. -/
mutual
def uptoBulk {H : Type} : DataW H → Nat
  | .lit (.string bytes) => bytes.length + 1
  | .lit _ => 1
  | .nil => 1
  | .ptr d => uptoBulk d + 1
  | .slice elems spare => uptoBulkAll elems + uptoBulkAll spare + 1
  | .agg parts => uptoBulkAll parts + 1
  | .iface _ d => uptoBulk d + 1
  | .map entries => uptoBulkEntries entries + 1
  | .held _ => 1
def uptoBulkAll {H : Type} : List (DataW H) → Nat
  | [] => 0
  | d :: r => uptoBulk d + uptoBulkAll r
def uptoBulkEntries {H : Type} : List (Lit × DataW H) → Nat
  | [] => 0
  | x :: r => uptoBulkEntry x + uptoBulkEntries r
def uptoBulkEntry {H : Type} : Lit × DataW H → Nat
  | (.string bytes, d) => bytes.length + uptoBulk d + 1
  | (_, d) => uptoBulk d + 1
 end
def uptoSmall : (H : Type) → List (DataW H) → Bool := fun _ ds => decide (uptoBulkAll ds ≤ 1048576)
def OpenSpec.upto (s : _root_.Go.ChangeSpec) : _root_.Go.OpenSpec := { _root_.Go.OpenSpec.ofChange s with cond := some uptoSmall }

/-- 'countersignlaw09.PinsGoes', WHERE WHAT IT READS IS OF BULK AT MOST 1048576: true; the input reads as it did. -/
def pinsGoesUptoRow : OpenClaim := { program := "ytalokejcacejpaa", sum := "7504b5de00054666f6267b0dfecefba2b9fb6a5aff7b01fb5bc2c6d5861f80d5", func := "countersign/countersignlaw09.PinsGoes", spec := "pinsGoes", inPlace := ["slices.overlaps[countersign/pins.pin]"], unfollowed := true, recurses := true, apart := false, narrowed := true }
def PinsGoesUptoSaid : Prop := pinsGoesUptoRow.holds Try.pinned (OpenSpec.upto pinsGoesSpec)

/-- 'countersignlaw09.PinsMore', WHERE WHAT IT READS IS OF BULK AT MOST 1048576: true; the input reads as it did. -/
def pinsMoreUptoRow : OpenClaim := { program := "ytalokejcacejpaa", sum := "7504b5de00054666f6267b0dfecefba2b9fb6a5aff7b01fb5bc2c6d5861f80d5", func := "countersign/countersignlaw09.PinsMore", spec := "pinsMore", inPlace := ["slices.overlaps[countersign/pins.pin]"], unfollowed := true, recurses := true, apart := false, narrowed := true }
def PinsMoreUptoSaid : Prop := pinsMoreUptoRow.holds Try.pinned (OpenSpec.upto pinsMoreSpec)

/-- 'countersignlaw09.PinsKnown', WHERE WHAT IT READS IS OF BULK AT MOST 1048576: true; the input reads as it did. -/
def pinsKnownUptoRow : OpenClaim := { program := "ytalokejcacejpaa", sum := "7504b5de00054666f6267b0dfecefba2b9fb6a5aff7b01fb5bc2c6d5861f80d5", func := "countersign/countersignlaw09.PinsKnown", spec := "pinsKnown", inPlace := ["slices.overlaps[countersign/pins.pin]"], unfollowed := true, recurses := true, apart := false, narrowed := true }
def PinsKnownUptoSaid : Prop := pinsKnownUptoRow.holds Try.pinned (OpenSpec.upto pinsKnownSpec)

/-- 'countersignlaw09.PinsPlay', WHERE WHAT IT READS IS OF BULK AT MOST 1048576: true; the input reads as it did. -/
def pinsPlayUptoRow : OpenClaim := { program := "ytalokejcacejpaa", sum := "7504b5de00054666f6267b0dfecefba2b9fb6a5aff7b01fb5bc2c6d5861f80d5", func := "countersign/countersignlaw09.PinsPlay", spec := "pinsPlay", inPlace := ["slices.overlaps[countersign/pins.pin]"], unfollowed := true, recurses := true, apart := false, narrowed := true }
def PinsPlayUptoSaid : Prop := pinsPlayUptoRow.holds Try.pinned (OpenSpec.upto pinsPlaySpec)

/-- 'countersignlaw09.PinsAny', WHERE WHAT IT READS IS OF BULK AT MOST 1048576: true; the input reads as it did. -/
def pinsAnyUptoRow : OpenClaim := { program := "ytalokejcacejpaa", sum := "7504b5de00054666f6267b0dfecefba2b9fb6a5aff7b01fb5bc2c6d5861f80d5", func := "countersign/countersignlaw09.PinsAny", spec := "pinsAny", inPlace := ["slices.overlaps[countersign/pins.pin]"], unfollowed := true, recurses := true, apart := false, narrowed := true }
def PinsAnyUptoSaid : Prop := pinsAnyUptoRow.holds Try.pinned (OpenSpec.upto pinsAnySpec)

end Rows
end Go.Proofs.Ytalokejcacejpaa
