/-
  No cell of these rows narrows 'for every input' (looked for: loops, veiled, ifaces, maps, wideKeys, modest, calm, conditions, laid).
  DERIVED. THE GIVEN ROWS OF THIS SEAT. 5 by the template 'for every input the law returns true; each argument reads behind the call as it read before'; 0 by the template 'total and deterministic' (their statements: YtkmaaddlimgdoaaTotals.lean).
  GIVEN WITH THE SEED: the statements are not yours to turn. If you find one false, say at which input.
  Laid BY PROGRAM, IN A SANDBOX (cutbox-rows.mjs): the forced cells as the released guide's own fill.sh prints them over the translation 473785cb8067c478… (all of the seat's roots in one cut). By AI agents, Wed Nov 11 2026. No macro, syntax, notation, axiom, sorry.
-/
import Derived.Test.YtkmaaddlimgdoaaChecked
import GoSem.Claim
import GoSem.ClaimJoined
import GoSem.ClaimMapViews
import Derived.JoinedTies
import Derived.KernelRfl
namespace Go.Proofs.Ytkmaaddlimgdoaa
/- THE CELL 'sum', in the pinned program and in every row, IS THE sha256 OF THE DUMP (.gsa) THAT YtkmaaddlimgdoaaProg.lean LOADS. Nothing in Lean hashes anything: it is a label: what it is worth is what the hold of that sum in a sandbox is worth. -/
noncomputable def Try.pinned : Pinned := { name := "ytkmaaddlimgdoaa", sum := "473785cb8067c47885b8b2c6f776532419f03a440142719f9cf5f7b5e322837e", checked := Try.checked }
namespace Rows
def none {H : Type} : Left H := { results := [], args := [] }

/-- 'countersignlaw35.QueuesOrder': WHATEVER THE INPUT: true; the input reads as it did. -/
def queuesOrderSpec : ChangeSpec := { name := "queuesOrder", fn := fun _ => fun
  | [d1, d2, d3] => { results := [.lit (.bool true)], args := [d1, d2, d3] }
  | _ => none }
def queuesOrderRow : OpenClaim := { program := "ytkmaaddlimgdoaa", sum := "473785cb8067c47885b8b2c6f776532419f03a440142719f9cf5f7b5e322837e", func := "countersign/countersignlaw35.QueuesOrder", spec := "queuesOrder", unfollowed := true, recurses := true, apart := false }
def QueuesOrderSaid : Prop := queuesOrderRow.holds Try.pinned (OpenSpec.ofChange queuesOrderSpec)

/-- ITS FALSE NEIGHBOUR: 'it returns false'. Refute it at one input. -/
def queuesOrderWrong : ChangeSpec := { name := "queuesOrder", fn := fun _ => fun
  | [d1, d2, d3] => { results := [.lit (.bool false)], args := [d1, d2, d3] }
  | _ => none }
def QueuesOrderWrongFalsely : Prop := queuesOrderRow.holds Try.pinned (OpenSpec.ofChange queuesOrderWrong)

/-- 'countersignlaw35.QueuesEffective': WHATEVER THE INPUT: true; the input reads as it did. -/
def queuesEffectiveSpec : ChangeSpec := { name := "queuesEffective", fn := fun _ => fun
  | [d1, d2] => { results := [.lit (.bool true)], args := [d1, d2] }
  | _ => none }
def queuesEffectiveRow : OpenClaim := { program := "ytkmaaddlimgdoaa", sum := "473785cb8067c47885b8b2c6f776532419f03a440142719f9cf5f7b5e322837e", func := "countersign/countersignlaw35.QueuesEffective", spec := "queuesEffective", unfollowed := true, recurses := true, apart := false }
def QueuesEffectiveSaid : Prop := queuesEffectiveRow.holds Try.pinned (OpenSpec.ofChange queuesEffectiveSpec)

/-- ITS FALSE NEIGHBOUR: 'it returns false'. Refute it at one input. -/
def queuesEffectiveWrong : ChangeSpec := { name := "queuesEffective", fn := fun _ => fun
  | [d1, d2] => { results := [.lit (.bool false)], args := [d1, d2] }
  | _ => none }
def QueuesEffectiveWrongFalsely : Prop := queuesEffectiveRow.holds Try.pinned (OpenSpec.ofChange queuesEffectiveWrong)

/-- 'countersignlaw35.QueuesRipe': WHATEVER THE INPUT: true; the input reads as it did. -/
def queuesRipeSpec : ChangeSpec := { name := "queuesRipe", fn := fun _ => fun
  | [d1, d2, d3] => { results := [.lit (.bool true)], args := [d1, d2, d3] }
  | _ => none }
def queuesRipeRow : OpenClaim := { program := "ytkmaaddlimgdoaa", sum := "473785cb8067c47885b8b2c6f776532419f03a440142719f9cf5f7b5e322837e", func := "countersign/countersignlaw35.QueuesRipe", spec := "queuesRipe", unfollowed := true, recurses := true, apart := false }
def QueuesRipeSaid : Prop := queuesRipeRow.holds Try.pinned (OpenSpec.ofChange queuesRipeSpec)

/-- ITS FALSE NEIGHBOUR: 'it returns false'. Refute it at one input. -/
def queuesRipeWrong : ChangeSpec := { name := "queuesRipe", fn := fun _ => fun
  | [d1, d2, d3] => { results := [.lit (.bool false)], args := [d1, d2, d3] }
  | _ => none }
def QueuesRipeWrongFalsely : Prop := queuesRipeRow.holds Try.pinned (OpenSpec.ofChange queuesRipeWrong)

/-- 'countersignlaw35.QueuesKnown': WHATEVER THE INPUT: true; the input reads as it did. -/
def queuesKnownSpec : ChangeSpec := { name := "queuesKnown", fn := fun _ => fun
  | [] => { results := [.lit (.bool true)], args := [] }
  | _ => none }
def queuesKnownRow : OpenClaim := { program := "ytkmaaddlimgdoaa", sum := "473785cb8067c47885b8b2c6f776532419f03a440142719f9cf5f7b5e322837e", func := "countersign/countersignlaw35.QueuesKnown", spec := "queuesKnown", unfollowed := true, recurses := true, apart := false }
def QueuesKnownSaid : Prop := queuesKnownRow.holds Try.pinned (OpenSpec.ofChange queuesKnownSpec)

/-- ITS FALSE NEIGHBOUR: 'it returns false'. Refute it at one input. -/
def queuesKnownWrong : ChangeSpec := { name := "queuesKnown", fn := fun _ => fun
  | [] => { results := [.lit (.bool false)], args := [] }
  | _ => none }
def QueuesKnownWrongFalsely : Prop := queuesKnownRow.holds Try.pinned (OpenSpec.ofChange queuesKnownWrong)

/-- 'countersignlaw35.QueuesChange': WHATEVER THE INPUT: true; the input reads as it did. -/
def queuesChangeSpec : ChangeSpec := { name := "queuesChange", fn := fun _ => fun
  | [d1, d2, d3] => { results := [.lit (.bool true)], args := [d1, d2, d3] }
  | _ => none }
def queuesChangeRow : OpenClaim := { program := "ytkmaaddlimgdoaa", sum := "473785cb8067c47885b8b2c6f776532419f03a440142719f9cf5f7b5e322837e", func := "countersign/countersignlaw35.QueuesChange", spec := "queuesChange", unfollowed := true, recurses := true, apart := false }
def QueuesChangeSaid : Prop := queuesChangeRow.holds Try.pinned (OpenSpec.ofChange queuesChangeSpec)

/-- ITS FALSE NEIGHBOUR: 'it returns false'. Refute it at one input. -/
def queuesChangeWrong : ChangeSpec := { name := "queuesChange", fn := fun _ => fun
  | [d1, d2, d3] => { results := [.lit (.bool false)], args := [d1, d2, d3] }
  | _ => none }
def QueuesChangeWrongFalsely : Prop := queuesChangeRow.holds Try.pinned (OpenSpec.ofChange queuesChangeWrong)

/- THE SECOND FORM. 'bulk': how many values and letters a reading holds, each counted each time it is reached (what is shared counts as often as it is met; a slice's spare places count too). A statement '..UptoSaid' is the law's where the arguments, and the package variables that the reading takes, are together of bulk at most 1048576: NARROWER than '..Said'. Prove '..Said' where nothing that the law and all that it calls make is longer than what came in: it says more and counts as full. Else prove '..UptoSaid'. A law counts once. -/
mutual
def uptoBulk {H : Type} : DataW H → Nat
  | .lit (.string bytes) => bytes.length + 1
  | .lit _ => 1
  | .nil => 1
  | .ptr d => uptoBulk d + 1
  | .slice elems spare => uptoBulkAll elems + uptoBulkAll spare + 1
  | .agg parts => uptoBulkAll parts + 1
  | .iface _ d => uptoBulk d + 1
  | .map entries => uptoBulkEntries entries + 1
  | .held _ => 1
def uptoBulkAll {H : Type} : List (DataW H) → Nat
  | [] => 0
  | d :: r => uptoBulk d + uptoBulkAll r
def uptoBulkEntries {H : Type} : List (Lit × DataW H) → Nat
  | [] => 0
  | x :: r => uptoBulkEntry x + uptoBulkEntries r
def uptoBulkEntry {H : Type} : Lit × DataW H → Nat
  | (.string bytes, d) => bytes.length + uptoBulk d + 1
  | (_, d) => uptoBulk d + 1
 end
def uptoSmall : (H : Type) → List (DataW H) → Bool := fun _ ds => decide (uptoBulkAll ds ≤ 1048576)
def OpenSpec.upto (s : _root_.Go.ChangeSpec) : _root_.Go.OpenSpec := { _root_.Go.OpenSpec.ofChange s with cond := some uptoSmall }

/-- 'countersignlaw35.QueuesOrder', WHERE WHAT IT READS IS OF BULK AT MOST 1048576: true; the input reads as it did. -/
def queuesOrderUptoRow : OpenClaim := { program := "ytkmaaddlimgdoaa", sum := "473785cb8067c47885b8b2c6f776532419f03a440142719f9cf5f7b5e322837e", func := "countersign/countersignlaw35.QueuesOrder", spec := "queuesOrder", unfollowed := true, recurses := true, apart := false, narrowed := true }
def QueuesOrderUptoSaid : Prop := queuesOrderUptoRow.holds Try.pinned (OpenSpec.upto queuesOrderSpec)

/-- 'countersignlaw35.QueuesEffective', WHERE WHAT IT READS IS OF BULK AT MOST 1048576: true; the input reads as it did. -/
def queuesEffectiveUptoRow : OpenClaim := { program := "ytkmaaddlimgdoaa", sum := "473785cb8067c47885b8b2c6f776532419f03a440142719f9cf5f7b5e322837e", func := "countersign/countersignlaw35.QueuesEffective", spec := "queuesEffective", unfollowed := true, recurses := true, apart := false, narrowed := true }
def QueuesEffectiveUptoSaid : Prop := queuesEffectiveUptoRow.holds Try.pinned (OpenSpec.upto queuesEffectiveSpec)

/-- 'countersignlaw35.QueuesRipe', WHERE WHAT IT READS IS OF BULK AT MOST 1048576: true; the input reads as it did. -/
def queuesRipeUptoRow : OpenClaim := { program := "ytkmaaddlimgdoaa", sum := "473785cb8067c47885b8b2c6f776532419f03a440142719f9cf5f7b5e322837e", func := "countersign/countersignlaw35.QueuesRipe", spec := "queuesRipe", unfollowed := true, recurses := true, apart := false, narrowed := true }
def QueuesRipeUptoSaid : Prop := queuesRipeUptoRow.holds Try.pinned (OpenSpec.upto queuesRipeSpec)

/-- 'countersignlaw35.QueuesKnown', WHERE WHAT IT READS IS OF BULK AT MOST 1048576: true; the input reads as it did. -/
def queuesKnownUptoRow : OpenClaim := { program := "ytkmaaddlimgdoaa", sum := "473785cb8067c47885b8b2c6f776532419f03a440142719f9cf5f7b5e322837e", func := "countersign/countersignlaw35.QueuesKnown", spec := "queuesKnown", unfollowed := true, recurses := true, apart := false, narrowed := true }
def QueuesKnownUptoSaid : Prop := queuesKnownUptoRow.holds Try.pinned (OpenSpec.upto queuesKnownSpec)

/-- 'countersignlaw35.QueuesChange', WHERE WHAT IT READS IS OF BULK AT MOST 1048576: true; the input reads as it did. -/
def queuesChangeUptoRow : OpenClaim := { program := "ytkmaaddlimgdoaa", sum := "473785cb8067c47885b8b2c6f776532419f03a440142719f9cf5f7b5e322837e", func := "countersign/countersignlaw35.QueuesChange", spec := "queuesChange", unfollowed := true, recurses := true, apart := false, narrowed := true }
def QueuesChangeUptoSaid : Prop := queuesChangeUptoRow.holds Try.pinned (OpenSpec.upto queuesChangeSpec)

end Rows
end Go.Proofs.Ytkmaaddlimgdoaa
