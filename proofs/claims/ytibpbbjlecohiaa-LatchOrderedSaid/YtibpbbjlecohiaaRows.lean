/-
  No cell of these rows narrows 'for every input' (looked for: loops, veiled, ifaces, maps, wideKeys, modest, calm, conditions, laid).
  DERIVED. THE GIVEN ROWS OF THIS SEAT. 13 by the template 'for every input the law returns true; each argument reads behind the call as it read before'; 0 by the template 'total and deterministic' (their statements: YtibpbbjlecohiaaTotals.lean).
  GIVEN WITH THE SEED: the statements are not yours to turn. If you find one false, say at which input.
  Laid BY PROGRAM, IN A SANDBOX (cutbox-rows.mjs): the forced cells as the released guide's own fill.sh prints them over the translation 256e3c519b44f58a… (all of the seat's roots in one cut). By AI agents, Wed Nov 11 2026. No macro, syntax, notation, axiom, sorry.
-/
import Derived.Test.YtibpbbjlecohiaaChecked
import GoSem.Claim
import GoSem.ClaimJoined
import GoSem.ClaimMapViews
import Derived.JoinedTies
import Derived.KernelRfl
namespace Go.Proofs.Ytibpbbjlecohiaa
/- THE CELL 'sum', in the pinned program and in every row, IS THE sha256 OF THE DUMP (.gsa) THAT YtibpbbjlecohiaaProg.lean LOADS. Nothing in Lean hashes anything: it is a label: what it is worth is what the hold of that sum in a sandbox is worth. -/
noncomputable def Try.pinned : Pinned := { name := "ytibpbbjlecohiaa", sum := "256e3c519b44f58a2373c8e06d232d09a62f8da056352e54d8a8fb3a227466ec", checked := Try.checked }
namespace Rows
def none {H : Type} : Left H := { results := [], args := [] }

/-- 'cellarlaw08.LatchNames': WHATEVER THE INPUT: true; the input reads as it did. -/
def latchNamesSpec : ChangeSpec := { name := "latchNames", fn := fun _ => fun
  | [] => { results := [.lit (.bool true)], args := [] }
  | _ => none }
def latchNamesRow : OpenClaim := { program := "ytibpbbjlecohiaa", sum := "256e3c519b44f58a2373c8e06d232d09a62f8da056352e54d8a8fb3a227466ec", func := "cellar/cellarlaw08.LatchNames", spec := "latchNames", apart := false }
def LatchNamesSaid : Prop := latchNamesRow.holds Try.pinned (OpenSpec.ofChange latchNamesSpec)

/-- ITS FALSE NEIGHBOUR: 'it returns false'. Refute it at one input. -/
def latchNamesWrong : ChangeSpec := { name := "latchNames", fn := fun _ => fun
  | [] => { results := [.lit (.bool false)], args := [] }
  | _ => none }
def LatchNamesWrongFalsely : Prop := latchNamesRow.holds Try.pinned (OpenSpec.ofChange latchNamesWrong)

/-- 'cellarlaw08.LatchFirst': WHATEVER THE INPUT: true; the input reads as it did. -/
def latchFirstSpec : ChangeSpec := { name := "latchFirst", fn := fun _ => fun
  | [d1, d2] => { results := [.lit (.bool true)], args := [d1, d2] }
  | _ => none }
def latchFirstRow : OpenClaim := { program := "ytibpbbjlecohiaa", sum := "256e3c519b44f58a2373c8e06d232d09a62f8da056352e54d8a8fb3a227466ec", func := "cellar/cellarlaw08.LatchFirst", spec := "latchFirst", apart := false }
def LatchFirstSaid : Prop := latchFirstRow.holds Try.pinned (OpenSpec.ofChange latchFirstSpec)

/-- ITS FALSE NEIGHBOUR: 'it returns false'. Refute it at one input. -/
def latchFirstWrong : ChangeSpec := { name := "latchFirst", fn := fun _ => fun
  | [d1, d2] => { results := [.lit (.bool false)], args := [d1, d2] }
  | _ => none }
def LatchFirstWrongFalsely : Prop := latchFirstRow.holds Try.pinned (OpenSpec.ofChange latchFirstWrong)

/-- 'cellarlaw08.LatchAlone': WHATEVER THE INPUT: true; the input reads as it did. -/
def latchAloneSpec : ChangeSpec := { name := "latchAlone", fn := fun _ => fun
  | [d] => { results := [.lit (.bool true)], args := [d] }
  | _ => none }
def latchAloneRow : OpenClaim := { program := "ytibpbbjlecohiaa", sum := "256e3c519b44f58a2373c8e06d232d09a62f8da056352e54d8a8fb3a227466ec", func := "cellar/cellarlaw08.LatchAlone", spec := "latchAlone", apart := false }
def LatchAloneSaid : Prop := latchAloneRow.holds Try.pinned (OpenSpec.ofChange latchAloneSpec)

/-- ITS FALSE NEIGHBOUR: 'it returns false'. Refute it at one input. -/
def latchAloneWrong : ChangeSpec := { name := "latchAlone", fn := fun _ => fun
  | [d] => { results := [.lit (.bool false)], args := [d] }
  | _ => none }
def LatchAloneWrongFalsely : Prop := latchAloneRow.holds Try.pinned (OpenSpec.ofChange latchAloneWrong)

/-- 'cellarlaw08.LatchPlays': WHATEVER THE INPUT: true; the input reads as it did. -/
def latchPlaysSpec : ChangeSpec := { name := "latchPlays", fn := fun _ => fun
  | [d] => { results := [.lit (.bool true)], args := [d] }
  | _ => none }
def latchPlaysRow : OpenClaim := { program := "ytibpbbjlecohiaa", sum := "256e3c519b44f58a2373c8e06d232d09a62f8da056352e54d8a8fb3a227466ec", func := "cellar/cellarlaw08.LatchPlays", spec := "latchPlays", unfollowed := true, recurses := true, apart := false }
def LatchPlaysSaid : Prop := latchPlaysRow.holds Try.pinned (OpenSpec.ofChange latchPlaysSpec)

/-- ITS FALSE NEIGHBOUR: 'it returns false'. Refute it at one input. -/
def latchPlaysWrong : ChangeSpec := { name := "latchPlays", fn := fun _ => fun
  | [d] => { results := [.lit (.bool false)], args := [d] }
  | _ => none }
def LatchPlaysWrongFalsely : Prop := latchPlaysRow.holds Try.pinned (OpenSpec.ofChange latchPlaysWrong)

/-- 'cellarlaw08.LatchSame': WHATEVER THE INPUT: true; the input reads as it did. -/
def latchSameSpec : ChangeSpec := { name := "latchSame", fn := fun _ => fun
  | [d1, d2] => { results := [.lit (.bool true)], args := [d1, d2] }
  | _ => none }
def latchSameRow : OpenClaim := { program := "ytibpbbjlecohiaa", sum := "256e3c519b44f58a2373c8e06d232d09a62f8da056352e54d8a8fb3a227466ec", func := "cellar/cellarlaw08.LatchSame", spec := "latchSame", unfollowed := true, recurses := true, apart := false }
def LatchSameSaid : Prop := latchSameRow.holds Try.pinned (OpenSpec.ofChange latchSameSpec)

/-- ITS FALSE NEIGHBOUR: 'it returns false'. Refute it at one input. -/
def latchSameWrong : ChangeSpec := { name := "latchSame", fn := fun _ => fun
  | [d1, d2] => { results := [.lit (.bool false)], args := [d1, d2] }
  | _ => none }
def LatchSameWrongFalsely : Prop := latchSameRow.holds Try.pinned (OpenSpec.ofChange latchSameWrong)

/-- 'cellarlaw08.LatchTurns': WHATEVER THE INPUT: true; the input reads as it did. -/
def latchTurnsSpec : ChangeSpec := { name := "latchTurns", fn := fun _ => fun
  | [d] => { results := [.lit (.bool true)], args := [d] }
  | _ => none }
def latchTurnsRow : OpenClaim := { program := "ytibpbbjlecohiaa", sum := "256e3c519b44f58a2373c8e06d232d09a62f8da056352e54d8a8fb3a227466ec", func := "cellar/cellarlaw08.LatchTurns", spec := "latchTurns", unfollowed := true, recurses := true, apart := false }
def LatchTurnsSaid : Prop := latchTurnsRow.holds Try.pinned (OpenSpec.ofChange latchTurnsSpec)

/-- ITS FALSE NEIGHBOUR: 'it returns false'. Refute it at one input. -/
def latchTurnsWrong : ChangeSpec := { name := "latchTurns", fn := fun _ => fun
  | [d] => { results := [.lit (.bool false)], args := [d] }
  | _ => none }
def LatchTurnsWrongFalsely : Prop := latchTurnsRow.holds Try.pinned (OpenSpec.ofChange latchTurnsWrong)

/-- 'cellarlaw08.LatchOrders': WHATEVER THE INPUT: true; the input reads as it did. -/
def latchOrdersSpec : ChangeSpec := { name := "latchOrders", fn := fun _ => fun
  | [d] => { results := [.lit (.bool true)], args := [d] }
  | _ => none }
def latchOrdersRow : OpenClaim := { program := "ytibpbbjlecohiaa", sum := "256e3c519b44f58a2373c8e06d232d09a62f8da056352e54d8a8fb3a227466ec", func := "cellar/cellarlaw08.LatchOrders", spec := "latchOrders", unfollowed := true, recurses := true, apart := false }
def LatchOrdersSaid : Prop := latchOrdersRow.holds Try.pinned (OpenSpec.ofChange latchOrdersSpec)

/-- ITS FALSE NEIGHBOUR: 'it returns false'. Refute it at one input. -/
def latchOrdersWrong : ChangeSpec := { name := "latchOrders", fn := fun _ => fun
  | [d] => { results := [.lit (.bool false)], args := [d] }
  | _ => none }
def LatchOrdersWrongFalsely : Prop := latchOrdersRow.holds Try.pinned (OpenSpec.ofChange latchOrdersWrong)

/-- 'cellarlaw08.LatchOrdered': WHATEVER THE INPUT: true; the input reads as it did. -/
def latchOrderedSpec : ChangeSpec := { name := "latchOrdered", fn := fun _ => fun
  | [d] => { results := [.lit (.bool true)], args := [d] }
  | _ => none }
def latchOrderedRow : OpenClaim := { program := "ytibpbbjlecohiaa", sum := "256e3c519b44f58a2373c8e06d232d09a62f8da056352e54d8a8fb3a227466ec", func := "cellar/cellarlaw08.LatchOrdered", spec := "latchOrdered", unfollowed := true, recurses := true, apart := false }
def LatchOrderedSaid : Prop := latchOrderedRow.holds Try.pinned (OpenSpec.ofChange latchOrderedSpec)

/-- ITS FALSE NEIGHBOUR: 'it returns false'. Refute it at one input. -/
def latchOrderedWrong : ChangeSpec := { name := "latchOrdered", fn := fun _ => fun
  | [d] => { results := [.lit (.bool false)], args := [d] }
  | _ => none }
def LatchOrderedWrongFalsely : Prop := latchOrderedRow.holds Try.pinned (OpenSpec.ofChange latchOrderedWrong)

/-- 'cellarlaw08.LatchOwn': WHATEVER THE INPUT: true; the input reads as it did. -/
def latchOwnSpec : ChangeSpec := { name := "latchOwn", fn := fun _ => fun
  | [d] => { results := [.lit (.bool true)], args := [d] }
  | _ => none }
def latchOwnRow : OpenClaim := { program := "ytibpbbjlecohiaa", sum := "256e3c519b44f58a2373c8e06d232d09a62f8da056352e54d8a8fb3a227466ec", func := "cellar/cellarlaw08.LatchOwn", spec := "latchOwn", unfollowed := true, recurses := true, apart := false }
def LatchOwnSaid : Prop := latchOwnRow.holds Try.pinned (OpenSpec.ofChange latchOwnSpec)

/-- ITS FALSE NEIGHBOUR: 'it returns false'. Refute it at one input. -/
def latchOwnWrong : ChangeSpec := { name := "latchOwn", fn := fun _ => fun
  | [d] => { results := [.lit (.bool false)], args := [d] }
  | _ => none }
def LatchOwnWrongFalsely : Prop := latchOwnRow.holds Try.pinned (OpenSpec.ofChange latchOwnWrong)

/-- 'cellarlaw08.LatchDoes': WHATEVER THE INPUT: true; the input reads as it did. -/
def latchDoesSpec : ChangeSpec := { name := "latchDoes", fn := fun _ => fun
  | [d] => { results := [.lit (.bool true)], args := [d] }
  | _ => none }
def latchDoesRow : OpenClaim := { program := "ytibpbbjlecohiaa", sum := "256e3c519b44f58a2373c8e06d232d09a62f8da056352e54d8a8fb3a227466ec", func := "cellar/cellarlaw08.LatchDoes", spec := "latchDoes", unfollowed := true, recurses := true, apart := false }
def LatchDoesSaid : Prop := latchDoesRow.holds Try.pinned (OpenSpec.ofChange latchDoesSpec)

/-- ITS FALSE NEIGHBOUR: 'it returns false'. Refute it at one input. -/
def latchDoesWrong : ChangeSpec := { name := "latchDoes", fn := fun _ => fun
  | [d] => { results := [.lit (.bool false)], args := [d] }
  | _ => none }
def LatchDoesWrongFalsely : Prop := latchDoesRow.holds Try.pinned (OpenSpec.ofChange latchDoesWrong)

/-- 'cellarlaw08.LatchLooks': WHATEVER THE INPUT: true; the input reads as it did. -/
def latchLooksSpec : ChangeSpec := { name := "latchLooks", fn := fun _ => fun
  | [d] => { results := [.lit (.bool true)], args := [d] }
  | _ => none }
def latchLooksRow : OpenClaim := { program := "ytibpbbjlecohiaa", sum := "256e3c519b44f58a2373c8e06d232d09a62f8da056352e54d8a8fb3a227466ec", func := "cellar/cellarlaw08.LatchLooks", spec := "latchLooks", unfollowed := true, recurses := true, apart := false }
def LatchLooksSaid : Prop := latchLooksRow.holds Try.pinned (OpenSpec.ofChange latchLooksSpec)

/-- ITS FALSE NEIGHBOUR: 'it returns false'. Refute it at one input. -/
def latchLooksWrong : ChangeSpec := { name := "latchLooks", fn := fun _ => fun
  | [d] => { results := [.lit (.bool false)], args := [d] }
  | _ => none }
def LatchLooksWrongFalsely : Prop := latchLooksRow.holds Try.pinned (OpenSpec.ofChange latchLooksWrong)

/-- 'cellarlaw08.LatchClosed': WHATEVER THE INPUT: true; the input reads as it did. -/
def latchClosedSpec : ChangeSpec := { name := "latchClosed", fn := fun _ => fun
  | [d] => { results := [.lit (.bool true)], args := [d] }
  | _ => none }
def latchClosedRow : OpenClaim := { program := "ytibpbbjlecohiaa", sum := "256e3c519b44f58a2373c8e06d232d09a62f8da056352e54d8a8fb3a227466ec", func := "cellar/cellarlaw08.LatchClosed", spec := "latchClosed", unfollowed := true, recurses := true, apart := false }
def LatchClosedSaid : Prop := latchClosedRow.holds Try.pinned (OpenSpec.ofChange latchClosedSpec)

/-- ITS FALSE NEIGHBOUR: 'it returns false'. Refute it at one input. -/
def latchClosedWrong : ChangeSpec := { name := "latchClosed", fn := fun _ => fun
  | [d] => { results := [.lit (.bool false)], args := [d] }
  | _ => none }
def LatchClosedWrongFalsely : Prop := latchClosedRow.holds Try.pinned (OpenSpec.ofChange latchClosedWrong)

/-- 'cellarlaw08.LatchStuck': WHATEVER THE INPUT: true; the input reads as it did. -/
def latchStuckSpec : ChangeSpec := { name := "latchStuck", fn := fun _ => fun
  | [d] => { results := [.lit (.bool true)], args := [d] }
  | _ => none }
def latchStuckRow : OpenClaim := { program := "ytibpbbjlecohiaa", sum := "256e3c519b44f58a2373c8e06d232d09a62f8da056352e54d8a8fb3a227466ec", func := "cellar/cellarlaw08.LatchStuck", spec := "latchStuck", unfollowed := true, recurses := true, apart := false }
def LatchStuckSaid : Prop := latchStuckRow.holds Try.pinned (OpenSpec.ofChange latchStuckSpec)

/-- ITS FALSE NEIGHBOUR: 'it returns false'. Refute it at one input. -/
def latchStuckWrong : ChangeSpec := { name := "latchStuck", fn := fun _ => fun
  | [d] => { results := [.lit (.bool false)], args := [d] }
  | _ => none }
def LatchStuckWrongFalsely : Prop := latchStuckRow.holds Try.pinned (OpenSpec.ofChange latchStuckWrong)

/- THE SECOND FORM. 'bulk': how many values and letters a reading holds, each counted each time it is reached (what is shared counts as often as it is met; a slice's spare places count too). A statement '..UptoSaid' is the law's where the arguments, and the package variables that the reading takes, are together of bulk at most 1048576: NARROWER than '..Said'. Prove '..Said' where nothing that the law and all that it calls make is longer than what came in: it says more and counts as full. Else prove '..UptoSaid'. A law counts once. -/
mutual
def uptoBulk {H : Type} : DataW H → Nat
  | .lit (.string bytes) => bytes.length + 1
  | .lit _ => 1
  | .nil => 1
  | .ptr d => uptoBulk d + 1
  | .slice elems spare => uptoBulkAll elems + uptoBulkAll spare + 1
  | .agg parts => uptoBulkAll parts + 1
  | .iface _ d => uptoBulk d + 1
  | .map entries => uptoBulkEntries entries + 1
  | .held _ => 1
def uptoBulkAll {H : Type} : List (DataW H) → Nat
  | [] => 0
  | d :: r => uptoBulk d + uptoBulkAll r
def uptoBulkEntries {H : Type} : List (Lit × DataW H) → Nat
  | [] => 0
  | x :: r => uptoBulkEntry x + uptoBulkEntries r
def uptoBulkEntry {H : Type} : Lit × DataW H → Nat
  | (.string bytes, d) => bytes.length + uptoBulk d + 1
  | (_, d) => uptoBulk d + 1
 end
def uptoSmall : (H : Type) → List (DataW H) → Bool := fun _ ds => decide (uptoBulkAll ds ≤ 1048576)
def OpenSpec.upto (s : _root_.Go.ChangeSpec) : _root_.Go.OpenSpec := { _root_.Go.OpenSpec.ofChange s with cond := some uptoSmall }

/-- 'cellarlaw08.LatchNames', WHERE WHAT IT READS IS OF BULK AT MOST 1048576: true; the input reads as it did. -/
def latchNamesUptoRow : OpenClaim := { program := "ytibpbbjlecohiaa", sum := "256e3c519b44f58a2373c8e06d232d09a62f8da056352e54d8a8fb3a227466ec", func := "cellar/cellarlaw08.LatchNames", spec := "latchNames", apart := false, narrowed := true }
def LatchNamesUptoSaid : Prop := latchNamesUptoRow.holds Try.pinned (OpenSpec.upto latchNamesSpec)

/-- 'cellarlaw08.LatchFirst', WHERE WHAT IT READS IS OF BULK AT MOST 1048576: true; the input reads as it did. -/
def latchFirstUptoRow : OpenClaim := { program := "ytibpbbjlecohiaa", sum := "256e3c519b44f58a2373c8e06d232d09a62f8da056352e54d8a8fb3a227466ec", func := "cellar/cellarlaw08.LatchFirst", spec := "latchFirst", apart := false, narrowed := true }
def LatchFirstUptoSaid : Prop := latchFirstUptoRow.holds Try.pinned (OpenSpec.upto latchFirstSpec)

/-- 'cellarlaw08.LatchAlone', WHERE WHAT IT READS IS OF BULK AT MOST 1048576: true; the input reads as it did. -/
def latchAloneUptoRow : OpenClaim := { program := "ytibpbbjlecohiaa", sum := "256e3c519b44f58a2373c8e06d232d09a62f8da056352e54d8a8fb3a227466ec", func := "cellar/cellarlaw08.LatchAlone", spec := "latchAlone", apart := false, narrowed := true }
def LatchAloneUptoSaid : Prop := latchAloneUptoRow.holds Try.pinned (OpenSpec.upto latchAloneSpec)

/-- 'cellarlaw08.LatchPlays', WHERE WHAT IT READS IS OF BULK AT MOST 1048576: true; the input reads as it did. -/
def latchPlaysUptoRow : OpenClaim := { program := "ytibpbbjlecohiaa", sum := "256e3c519b44f58a2373c8e06d232d09a62f8da056352e54d8a8fb3a227466ec", func := "cellar/cellarlaw08.LatchPlays", spec := "latchPlays", unfollowed := true, recurses := true, apart := false, narrowed := true }
def LatchPlaysUptoSaid : Prop := latchPlaysUptoRow.holds Try.pinned (OpenSpec.upto latchPlaysSpec)

/-- 'cellarlaw08.LatchSame', WHERE WHAT IT READS IS OF BULK AT MOST 1048576: true; the input reads as it did. -/
def latchSameUptoRow : OpenClaim := { program := "ytibpbbjlecohiaa", sum := "256e3c519b44f58a2373c8e06d232d09a62f8da056352e54d8a8fb3a227466ec", func := "cellar/cellarlaw08.LatchSame", spec := "latchSame", unfollowed := true, recurses := true, apart := false, narrowed := true }
def LatchSameUptoSaid : Prop := latchSameUptoRow.holds Try.pinned (OpenSpec.upto latchSameSpec)

/-- 'cellarlaw08.LatchTurns', WHERE WHAT IT READS IS OF BULK AT MOST 1048576: true; the input reads as it did. -/
def latchTurnsUptoRow : OpenClaim := { program := "ytibpbbjlecohiaa", sum := "256e3c519b44f58a2373c8e06d232d09a62f8da056352e54d8a8fb3a227466ec", func := "cellar/cellarlaw08.LatchTurns", spec := "latchTurns", unfollowed := true, recurses := true, apart := false, narrowed := true }
def LatchTurnsUptoSaid : Prop := latchTurnsUptoRow.holds Try.pinned (OpenSpec.upto latchTurnsSpec)

/-- 'cellarlaw08.LatchOrders', WHERE WHAT IT READS IS OF BULK AT MOST 1048576: true; the input reads as it did. -/
def latchOrdersUptoRow : OpenClaim := { program := "ytibpbbjlecohiaa", sum := "256e3c519b44f58a2373c8e06d232d09a62f8da056352e54d8a8fb3a227466ec", func := "cellar/cellarlaw08.LatchOrders", spec := "latchOrders", unfollowed := true, recurses := true, apart := false, narrowed := true }
def LatchOrdersUptoSaid : Prop := latchOrdersUptoRow.holds Try.pinned (OpenSpec.upto latchOrdersSpec)

/-- 'cellarlaw08.LatchOrdered', WHERE WHAT IT READS IS OF BULK AT MOST 1048576: true; the input reads as it did. -/
def latchOrderedUptoRow : OpenClaim := { program := "ytibpbbjlecohiaa", sum := "256e3c519b44f58a2373c8e06d232d09a62f8da056352e54d8a8fb3a227466ec", func := "cellar/cellarlaw08.LatchOrdered", spec := "latchOrdered", unfollowed := true, recurses := true, apart := false, narrowed := true }
def LatchOrderedUptoSaid : Prop := latchOrderedUptoRow.holds Try.pinned (OpenSpec.upto latchOrderedSpec)

/-- 'cellarlaw08.LatchOwn', WHERE WHAT IT READS IS OF BULK AT MOST 1048576: true; the input reads as it did. -/
def latchOwnUptoRow : OpenClaim := { program := "ytibpbbjlecohiaa", sum := "256e3c519b44f58a2373c8e06d232d09a62f8da056352e54d8a8fb3a227466ec", func := "cellar/cellarlaw08.LatchOwn", spec := "latchOwn", unfollowed := true, recurses := true, apart := false, narrowed := true }
def LatchOwnUptoSaid : Prop := latchOwnUptoRow.holds Try.pinned (OpenSpec.upto latchOwnSpec)

/-- 'cellarlaw08.LatchDoes', WHERE WHAT IT READS IS OF BULK AT MOST 1048576: true; the input reads as it did. -/
def latchDoesUptoRow : OpenClaim := { program := "ytibpbbjlecohiaa", sum := "256e3c519b44f58a2373c8e06d232d09a62f8da056352e54d8a8fb3a227466ec", func := "cellar/cellarlaw08.LatchDoes", spec := "latchDoes", unfollowed := true, recurses := true, apart := false, narrowed := true }
def LatchDoesUptoSaid : Prop := latchDoesUptoRow.holds Try.pinned (OpenSpec.upto latchDoesSpec)

/-- 'cellarlaw08.LatchLooks', WHERE WHAT IT READS IS OF BULK AT MOST 1048576: true; the input reads as it did. -/
def latchLooksUptoRow : OpenClaim := { program := "ytibpbbjlecohiaa", sum := "256e3c519b44f58a2373c8e06d232d09a62f8da056352e54d8a8fb3a227466ec", func := "cellar/cellarlaw08.LatchLooks", spec := "latchLooks", unfollowed := true, recurses := true, apart := false, narrowed := true }
def LatchLooksUptoSaid : Prop := latchLooksUptoRow.holds Try.pinned (OpenSpec.upto latchLooksSpec)

/-- 'cellarlaw08.LatchClosed', WHERE WHAT IT READS IS OF BULK AT MOST 1048576: true; the input reads as it did. -/
def latchClosedUptoRow : OpenClaim := { program := "ytibpbbjlecohiaa", sum := "256e3c519b44f58a2373c8e06d232d09a62f8da056352e54d8a8fb3a227466ec", func := "cellar/cellarlaw08.LatchClosed", spec := "latchClosed", unfollowed := true, recurses := true, apart := false, narrowed := true }
def LatchClosedUptoSaid : Prop := latchClosedUptoRow.holds Try.pinned (OpenSpec.upto latchClosedSpec)

/-- 'cellarlaw08.LatchStuck', WHERE WHAT IT READS IS OF BULK AT MOST 1048576: true; the input reads as it did. -/
def latchStuckUptoRow : OpenClaim := { program := "ytibpbbjlecohiaa", sum := "256e3c519b44f58a2373c8e06d232d09a62f8da056352e54d8a8fb3a227466ec", func := "cellar/cellarlaw08.LatchStuck", spec := "latchStuck", unfollowed := true, recurses := true, apart := false, narrowed := true }
def LatchStuckUptoSaid : Prop := latchStuckUptoRow.holds Try.pinned (OpenSpec.upto latchStuckSpec)

end Rows
end Go.Proofs.Ytibpbbjlecohiaa
