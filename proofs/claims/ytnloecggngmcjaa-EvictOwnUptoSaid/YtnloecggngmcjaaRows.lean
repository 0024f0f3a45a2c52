/-
  No cell of these rows narrows 'for every input' (looked for: loops, veiled, ifaces, maps, wideKeys, modest, calm, conditions, laid).
  DERIVED. THE GIVEN ROWS OF THIS SEAT. 7 by the template 'for every input the law returns true; each argument reads behind the call as it read before'; 0 by the template 'total and deterministic' (their statements: YtnloecggngmcjaaTotals.lean).
  GIVEN WITH THE SEED: the statements are not yours to turn. If you find one false, say at which input.
  Laid BY PROGRAM, IN A SANDBOX (cutbox-rows.mjs): the forced cells as the released guide's own fill.sh prints them over the translation 608dd7cfb48bbe9f… (all of the seat's roots in one cut). By AI agents, Wed Nov 11 2026. No macro, syntax, notation, axiom, sorry.
-/
import Derived.Test.YtnloecggngmcjaaChecked
import GoSem.Claim
import GoSem.ClaimJoined
import GoSem.ClaimMapViews
import Derived.JoinedTies
import Derived.KernelRfl
namespace Go.Proofs.Ytnloecggngmcjaa
/- THE CELL 'sum', in the pinned program and in every row, IS THE sha256 OF THE DUMP (.gsa) THAT YtnloecggngmcjaaProg.lean LOADS. Nothing in Lean hashes anything: it is a label: what it is worth is what the hold of that sum in a sandbox is worth. -/
noncomputable def Try.pinned : Pinned := { name := "ytnloecggngmcjaa", sum := "608dd7cfb48bbe9fba36283079f1398cfab44d94061dd74b61d1e72b5a1d1c93", checked := Try.checked }
namespace Rows
def none {H : Type} : Left H := { results := [], args := [] }

/-- 'cellarlaw16.EvictStays': WHATEVER THE INPUT: true; the input reads as it did. -/
def evictStaysSpec : ChangeSpec := { name := "evictStays", fn := fun _ => fun
  | [d] => { results := [.lit (.bool true)], args := [d] }
  | _ => none }
def evictStaysRow : OpenClaim := { program := "ytnloecggngmcjaa", sum := "608dd7cfb48bbe9fba36283079f1398cfab44d94061dd74b61d1e72b5a1d1c93", func := "cellar/cellarlaw16.EvictStays", spec := "evictStays", apart := false }
def EvictStaysSaid : Prop := evictStaysRow.holds Try.pinned (OpenSpec.ofChange evictStaysSpec)

/-- ITS FALSE NEIGHBOUR: 'it returns false'. Refute it at one input. -/
def evictStaysWrong : ChangeSpec := { name := "evictStays", fn := fun _ => fun
  | [d] => { results := [.lit (.bool false)], args := [d] }
  | _ => none }
def EvictStaysWrongFalsely : Prop := evictStaysRow.holds Try.pinned (OpenSpec.ofChange evictStaysWrong)

/-- 'cellarlaw16.EvictOldest': WHATEVER THE INPUT: true; the input reads as it did. -/
def evictOldestSpec : ChangeSpec := { name := "evictOldest", fn := fun _ => fun
  | [d1, d2] => { results := [.lit (.bool true)], args := [d1, d2] }
  | _ => none }
def evictOldestRow : OpenClaim := { program := "ytnloecggngmcjaa", sum := "608dd7cfb48bbe9fba36283079f1398cfab44d94061dd74b61d1e72b5a1d1c93", func := "cellar/cellarlaw16.EvictOldest", spec := "evictOldest", apart := false }
def EvictOldestSaid : Prop := evictOldestRow.holds Try.pinned (OpenSpec.ofChange evictOldestSpec)

/-- ITS FALSE NEIGHBOUR: 'it returns false'. Refute it at one input. -/
def evictOldestWrong : ChangeSpec := { name := "evictOldest", fn := fun _ => fun
  | [d1, d2] => { results := [.lit (.bool false)], args := [d1, d2] }
  | _ => none }
def EvictOldestWrongFalsely : Prop := evictOldestRow.holds Try.pinned (OpenSpec.ofChange evictOldestWrong)

/-- 'cellarlaw16.EvictSpares': WHATEVER THE INPUT: true; the input reads as it did. -/
def evictSparesSpec : ChangeSpec := { name := "evictSpares", fn := fun _ => fun
  | [d1, d2] => { results := [.lit (.bool true)], args := [d1, d2] }
  | _ => none }
def evictSparesRow : OpenClaim := { program := "ytnloecggngmcjaa", sum := "608dd7cfb48bbe9fba36283079f1398cfab44d94061dd74b61d1e72b5a1d1c93", func := "cellar/cellarlaw16.EvictSpares", spec := "evictSpares", apart := false }
def EvictSparesSaid : Prop := evictSparesRow.holds Try.pinned (OpenSpec.ofChange evictSparesSpec)

/-- ITS FALSE NEIGHBOUR: 'it returns false'. Refute it at one input. -/
def evictSparesWrong : ChangeSpec := { name := "evictSpares", fn := fun _ => fun
  | [d1, d2] => { results := [.lit (.bool false)], args := [d1, d2] }
  | _ => none }
def EvictSparesWrongFalsely : Prop := evictSparesRow.holds Try.pinned (OpenSpec.ofChange evictSparesWrong)

/-- 'cellarlaw16.EvictDoes': WHATEVER THE INPUT: true; the input reads as it did. -/
def evictDoesSpec : ChangeSpec := { name := "evictDoes", fn := fun _ => fun
  | [d] => { results := [.lit (.bool true)], args := [d] }
  | _ => none }
def evictDoesRow : OpenClaim := { program := "ytnloecggngmcjaa", sum := "608dd7cfb48bbe9fba36283079f1398cfab44d94061dd74b61d1e72b5a1d1c93", func := "cellar/cellarlaw16.EvictDoes", spec := "evictDoes", apart := false }
def EvictDoesSaid : Prop := evictDoesRow.holds Try.pinned (OpenSpec.ofChange evictDoesSpec)

/-- ITS FALSE NEIGHBOUR: 'it returns false'. Refute it at one input. -/
def evictDoesWrong : ChangeSpec := { name := "evictDoes", fn := fun _ => fun
  | [d] => { results := [.lit (.bool false)], args := [d] }
  | _ => none }
def EvictDoesWrongFalsely : Prop := evictDoesRow.holds Try.pinned (OpenSpec.ofChange evictDoesWrong)

/-- 'cellarlaw16.EvictOwn': WHATEVER THE INPUT: true; the input reads as it did. -/
def evictOwnSpec : ChangeSpec := { name := "evictOwn", fn := fun _ => fun
  | [d] => { results := [.lit (.bool true)], args := [d] }
  | _ => none }
def evictOwnRow : OpenClaim := { program := "ytnloecggngmcjaa", sum := "608dd7cfb48bbe9fba36283079f1398cfab44d94061dd74b61d1e72b5a1d1c93", func := "cellar/cellarlaw16.EvictOwn", spec := "evictOwn", apart := false }
def EvictOwnSaid : Prop := evictOwnRow.holds Try.pinned (OpenSpec.ofChange evictOwnSpec)

/-- ITS FALSE NEIGHBOUR: 'it returns false'. Refute it at one input. -/
def evictOwnWrong : ChangeSpec := { name := "evictOwn", fn := fun _ => fun
  | [d] => { results := [.lit (.bool false)], args := [d] }
  | _ => none }
def EvictOwnWrongFalsely : Prop := evictOwnRow.holds Try.pinned (OpenSpec.ofChange evictOwnWrong)

/-- 'cellarlaw16.EvictForks': WHATEVER THE INPUT: true; the input reads as it did. -/
def evictForksSpec : ChangeSpec := { name := "evictForks", fn := fun _ => fun
  | [d1, d2] => { results := [.lit (.bool true)], args := [d1, d2] }
  | _ => none }
def evictForksRow : OpenClaim := { program := "ytnloecggngmcjaa", sum := "608dd7cfb48bbe9fba36283079f1398cfab44d94061dd74b61d1e72b5a1d1c93", func := "cellar/cellarlaw16.EvictForks", spec := "evictForks", apart := false }
def EvictForksSaid : Prop := evictForksRow.holds Try.pinned (OpenSpec.ofChange evictForksSpec)

/-- ITS FALSE NEIGHBOUR: 'it returns false'. Refute it at one input. -/
def evictForksWrong : ChangeSpec := { name := "evictForks", fn := fun _ => fun
  | [d1, d2] => { results := [.lit (.bool false)], args := [d1, d2] }
  | _ => none }
def EvictForksWrongFalsely : Prop := evictForksRow.holds Try.pinned (OpenSpec.ofChange evictForksWrong)

/-- 'cellarlaw16.EvictClosed': WHATEVER THE INPUT: true; the input reads as it did. -/
def evictClosedSpec : ChangeSpec := { name := "evictClosed", fn := fun _ => fun
  | [d] => { results := [.lit (.bool true)], args := [d] }
  | _ => none }
def evictClosedRow : OpenClaim := { program := "ytnloecggngmcjaa", sum := "608dd7cfb48bbe9fba36283079f1398cfab44d94061dd74b61d1e72b5a1d1c93", func := "cellar/cellarlaw16.EvictClosed", spec := "evictClosed", apart := false }
def EvictClosedSaid : Prop := evictClosedRow.holds Try.pinned (OpenSpec.ofChange evictClosedSpec)

/-- ITS FALSE NEIGHBOUR: 'it returns false'. Refute it at one input. -/
def evictClosedWrong : ChangeSpec := { name := "evictClosed", fn := fun _ => fun
  | [d] => { results := [.lit (.bool false)], args := [d] }
  | _ => none }
def EvictClosedWrongFalsely : Prop := evictClosedRow.holds Try.pinned (OpenSpec.ofChange evictClosedWrong)

/- THE SECOND FORM. 'bulk': how many values and letters a reading holds, each counted each time it is reached (what is shared counts as often as it is met; a slice's spare places count too). A statement '..UptoSaid' is the law's where the arguments, and the package variables that the reading takes, are together of bulk at most 1048576: NARROWER than '..Said'. Prove '..Said' where nothing that the law and all that it calls make is longer than what came in: it says more and counts as full. Else prove '..UptoSaid'. A law counts once. -/
mutual
def uptoBulk {H : Type} : DataW H → Nat
  | .lit (.string bytes) => bytes.length + 1
  | .lit _ => 1
  | .nil => 1
  | .ptr d => uptoBulk d + 1
  | .slice elems spare => uptoBulkAll elems + uptoBulkAll spare + 1
  | .agg parts => uptoBulkAll parts + 1
  | .iface _ d => uptoBulk d + 1
  | .map entries => uptoBulkEntries entries + 1
  | .held _ => 1
def uptoBulkAll {H : Type} : List (DataW H) → Nat
  | [] => 0
  | d :: r => uptoBulk d + uptoBulkAll r
def uptoBulkEntries {H : Type} : List (Lit × DataW H) → Nat
  | [] => 0
  | x :: r => uptoBulkEntry x + uptoBulkEntries r
def uptoBulkEntry {H : Type} : Lit × DataW H → Nat
  | (.string bytes, d) => bytes.length + uptoBulk d + 1
  | (_, d) => uptoBulk d + 1
 end
def uptoSmall : (H : Type) → List (DataW H) → Bool := fun _ ds => decide (uptoBulkAll ds ≤ 1048576)
def OpenSpec.upto (s : _root_.Go.ChangeSpec) : _root_.Go.OpenSpec := { _root_.Go.OpenSpec.ofChange s with cond := some uptoSmall }

/-- 'cellarlaw16.EvictStays', WHERE WHAT IT READS IS OF BULK AT MOST 1048576: true; the input reads as it did. -/
def evictStaysUptoRow : OpenClaim := { program := "ytnloecggngmcjaa", sum := "608dd7cfb48bbe9fba36283079f1398cfab44d94061dd74b61d1e72b5a1d1c93", func := "cellar/cellarlaw16.EvictStays", spec := "evictStays", apart := false, narrowed := true }
def EvictStaysUptoSaid : Prop := evictStaysUptoRow.holds Try.pinned (OpenSpec.upto evictStaysSpec)

/-- 'cellarlaw16.EvictOldest', WHERE WHAT IT READS IS OF BULK AT MOST 1048576: true; the input reads as it did. -/
def evictOldestUptoRow : OpenClaim := { program := "ytnloecggngmcjaa", sum := "608dd7cfb48bbe9fba36283079f1398cfab44d94061dd74b61d1e72b5a1d1c93", func := "cellar/cellarlaw16.EvictOldest", spec := "evictOldest", apart := false, narrowed := true }
def EvictOldestUptoSaid : Prop := evictOldestUptoRow.holds Try.pinned (OpenSpec.upto evictOldestSpec)

/-- 'cellarlaw16.EvictSpares', WHERE WHAT IT READS IS OF BULK AT MOST 1048576: true; the input reads as it did. -/
def evictSparesUptoRow : OpenClaim := { program := "ytnloecggngmcjaa", sum := "608dd7cfb48bbe9fba36283079f1398cfab44d94061dd74b61d1e72b5a1d1c93", func := "cellar/cellarlaw16.EvictSpares", spec := "evictSpares", apart := false, narrowed := true }
def EvictSparesUptoSaid : Prop := evictSparesUptoRow.holds Try.pinned (OpenSpec.upto evictSparesSpec)

/-- 'cellarlaw16.EvictDoes', WHERE WHAT IT READS IS OF BULK AT MOST 1048576: true; the input reads as it did. -/
def evictDoesUptoRow : OpenClaim := { program := "ytnloecggngmcjaa", sum := "608dd7cfb48bbe9fba36283079f1398cfab44d94061dd74b61d1e72b5a1d1c93", func := "cellar/cellarlaw16.EvictDoes", spec := "evictDoes", apart := false, narrowed := true }
def EvictDoesUptoSaid : Prop := evictDoesUptoRow.holds Try.pinned (OpenSpec.upto evictDoesSpec)

/-- 'cellarlaw16.EvictOwn', WHERE WHAT IT READS IS OF BULK AT MOST 1048576: true; the input reads as it did. -/
def evictOwnUptoRow : OpenClaim := { program := "ytnloecggngmcjaa", sum := "608dd7cfb48bbe9fba36283079f1398cfab44d94061dd74b61d1e72b5a1d1c93", func := "cellar/cellarlaw16.EvictOwn", spec := "evictOwn", apart := false, narrowed := true }
def EvictOwnUptoSaid : Prop := evictOwnUptoRow.holds Try.pinned (OpenSpec.upto evictOwnSpec)

/-- 'cellarlaw16.EvictForks', WHERE WHAT IT READS IS OF BULK AT MOST 1048576: true; the input reads as it did. -/
def evictForksUptoRow : OpenClaim := { program := "ytnloecggngmcjaa", sum := "608dd7cfb48bbe9fba36283079f1398cfab44d94061dd74b61d1e72b5a1d1c93", func := "cellar/cellarlaw16.EvictForks", spec := "evictForks", apart := false, narrowed := true }
def EvictForksUptoSaid : Prop := evictForksUptoRow.holds Try.pinned (OpenSpec.upto evictForksSpec)

/-- 'cellarlaw16.EvictClosed', WHERE WHAT IT READS IS OF BULK AT MOST 1048576: true; the input reads as it did. -/
def evictClosedUptoRow : OpenClaim := { program := "ytnloecggngmcjaa", sum := "608dd7cfb48bbe9fba36283079f1398cfab44d94061dd74b61d1e72b5a1d1c93", func := "cellar/cellarlaw16.EvictClosed", spec := "evictClosed", apart := false, narrowed := true }
def EvictClosedUptoSaid : Prop := evictClosedUptoRow.holds Try.pinned (OpenSpec.upto evictClosedSpec)

end Rows
end Go.Proofs.Ytnloecggngmcjaa
