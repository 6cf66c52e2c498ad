/-
  No cell of these rows narrows 'for every input' (looked for: loops, veiled, ifaces, maps, wideKeys, modest, calm, conditions, laid).
  DERIVED. THE GIVEN ROWS OF THIS SEAT. 9 by the template 'for every input the law returns true; each argument reads behind the call as it read before'; 0 by the template 'total and deterministic' (their statements: YtoflmhdgojenpaaTotals.lean).
  GIVEN WITH THE SEED: the statements are not yours to turn. If you find one false, say at which input.
  Laid BY PROGRAM, IN A SANDBOX (cutbox-rows.mjs): the forced cells as the released guide's own fill.sh prints them over the translation ae57ff5d95446c77… (all of the seat's roots in one cut). By AI agents, Wed Nov 11 2026. No macro, syntax, notation, axiom, sorry.
-/
import Derived.Test.YtoflmhdgojenpaaChecked
import GoSem.Claim
import GoSem.ClaimJoined
import GoSem.ClaimMapViews
import Derived.JoinedTies
import Derived.KernelRfl
namespace Go.Proofs.Ytoflmhdgojenpaa
/- THE CELL 'sum', in the pinned program and in every row, IS THE sha256 OF THE DUMP (.gsa) THAT YtoflmhdgojenpaaProg.lean LOADS. Nothing in Lean hashes anything: it is a label: what it is worth is what the hold of that sum in a sandbox is worth. -/
noncomputable def Try.pinned : Pinned := { name := "ytoflmhdgojenpaa", sum := "ae57ff5d95446c77abbb7b955325ac2cc961887d1bbe0cf23ad879b3472dee9f", checked := Try.checked }
namespace Rows
def none {H : Type} : Left H := { results := [], args := [] }

/-- 'shardloglaw07.DiskKeeps': WHATEVER THE INPUT: true; the input reads as it did. -/
def diskKeepsSpec : ChangeSpec := { name := "diskKeeps", fn := fun _ => fun
  | [d] => { results := [.lit (.bool true)], args := [d] }
  | _ => none }
def diskKeepsRow : OpenClaim := { program := "ytoflmhdgojenpaa", sum := "ae57ff5d95446c77abbb7b955325ac2cc961887d1bbe0cf23ad879b3472dee9f", func := "shardlog/shardloglaw07.DiskKeeps", spec := "diskKeeps", unfollowed := true, recurses := true, apart := false }
def DiskKeepsSaid : Prop := diskKeepsRow.holds Try.pinned (OpenSpec.ofChange diskKeepsSpec)

/-- ITS FALSE NEIGHBOUR: 'it returns false'. Refute it at one input. -/
def diskKeepsWrong : ChangeSpec := { name := "diskKeeps", fn := fun _ => fun
  | [d] => { results := [.lit (.bool false)], args := [d] }
  | _ => none }
def DiskKeepsWrongFalsely : Prop := diskKeepsRow.holds Try.pinned (OpenSpec.ofChange diskKeepsWrong)

/-- 'shardloglaw07.DiskActs': WHATEVER THE INPUT: true; the input reads as it did. -/
def diskActsSpec : ChangeSpec := { name := "diskActs", fn := fun _ => fun
  | [d1, d2] => { results := [.lit (.bool true)], args := [d1, d2] }
  | _ => none }
def diskActsRow : OpenClaim := { program := "ytoflmhdgojenpaa", sum := "ae57ff5d95446c77abbb7b955325ac2cc961887d1bbe0cf23ad879b3472dee9f", func := "shardlog/shardloglaw07.DiskActs", spec := "diskActs", unfollowed := true, recurses := true, apart := false }
def DiskActsSaid : Prop := diskActsRow.holds Try.pinned (OpenSpec.ofChange diskActsSpec)

/-- ITS FALSE NEIGHBOUR: 'it returns false'. Refute it at one input. -/
def diskActsWrong : ChangeSpec := { name := "diskActs", fn := fun _ => fun
  | [d1, d2] => { results := [.lit (.bool false)], args := [d1, d2] }
  | _ => none }
def DiskActsWrongFalsely : Prop := diskActsRow.holds Try.pinned (OpenSpec.ofChange diskActsWrong)

/-- 'shardloglaw07.DiskSynced': WHATEVER THE INPUT: true; the input reads as it did. -/
def diskSyncedSpec : ChangeSpec := { name := "diskSynced", fn := fun _ => fun
  | [d1, d2] => { results := [.lit (.bool true)], args := [d1, d2] }
  | _ => none }
def diskSyncedRow : OpenClaim := { program := "ytoflmhdgojenpaa", sum := "ae57ff5d95446c77abbb7b955325ac2cc961887d1bbe0cf23ad879b3472dee9f", func := "shardlog/shardloglaw07.DiskSynced", spec := "diskSynced", unfollowed := true, recurses := true, apart := false }
def DiskSyncedSaid : Prop := diskSyncedRow.holds Try.pinned (OpenSpec.ofChange diskSyncedSpec)

/-- ITS FALSE NEIGHBOUR: 'it returns false'. Refute it at one input. -/
def diskSyncedWrong : ChangeSpec := { name := "diskSynced", fn := fun _ => fun
  | [d1, d2] => { results := [.lit (.bool false)], args := [d1, d2] }
  | _ => none }
def DiskSyncedWrongFalsely : Prop := diskSyncedRow.holds Try.pinned (OpenSpec.ofChange diskSyncedWrong)

/-- 'shardloglaw18.LogKeeps': WHATEVER THE INPUT: true; the input reads as it did. -/
def logKeepsSpec : ChangeSpec := { name := "logKeeps", fn := fun _ => fun
  | [d] => { results := [.lit (.bool true)], args := [d] }
  | _ => none }
def logKeepsRow : OpenClaim := { program := "ytoflmhdgojenpaa", sum := "ae57ff5d95446c77abbb7b955325ac2cc961887d1bbe0cf23ad879b3472dee9f", func := "shardlog/shardloglaw18.LogKeeps", spec := "logKeeps", unfollowed := true, recurses := true, apart := false }
def LogKeepsSaid : Prop := logKeepsRow.holds Try.pinned (OpenSpec.ofChange logKeepsSpec)

/-- ITS FALSE NEIGHBOUR: 'it returns false'. Refute it at one input. -/
def logKeepsWrong : ChangeSpec := { name := "logKeeps", fn := fun _ => fun
  | [d] => { results := [.lit (.bool false)], args := [d] }
  | _ => none }
def LogKeepsWrongFalsely : Prop := logKeepsRow.holds Try.pinned (OpenSpec.ofChange logKeepsWrong)

/-- 'shardloglaw18.LogCompacts': WHATEVER THE INPUT: true; the input reads as it did. -/
def logCompactsSpec : ChangeSpec := { name := "logCompacts", fn := fun _ => fun
  | [d] => { results := [.lit (.bool true)], args := [d] }
  | _ => none }
def logCompactsRow : OpenClaim := { program := "ytoflmhdgojenpaa", sum := "ae57ff5d95446c77abbb7b955325ac2cc961887d1bbe0cf23ad879b3472dee9f", func := "shardlog/shardloglaw18.LogCompacts", spec := "logCompacts", unfollowed := true, recurses := true, apart := false }
def LogCompactsSaid : Prop := logCompactsRow.holds Try.pinned (OpenSpec.ofChange logCompactsSpec)

/-- ITS FALSE NEIGHBOUR: 'it returns false'. Refute it at one input. -/
def logCompactsWrong : ChangeSpec := { name := "logCompacts", fn := fun _ => fun
  | [d] => { results := [.lit (.bool false)], args := [d] }
  | _ => none }
def LogCompactsWrongFalsely : Prop := logCompactsRow.holds Try.pinned (OpenSpec.ofChange logCompactsWrong)

/-- 'shardloglaw18.LogReads': WHATEVER THE INPUT: true; the input reads as it did. -/
def logReadsSpec : ChangeSpec := { name := "logReads", fn := fun _ => fun
  | [d] => { results := [.lit (.bool true)], args := [d] }
  | _ => none }
def logReadsRow : OpenClaim := { program := "ytoflmhdgojenpaa", sum := "ae57ff5d95446c77abbb7b955325ac2cc961887d1bbe0cf23ad879b3472dee9f", func := "shardlog/shardloglaw18.LogReads", spec := "logReads", unfollowed := true, recurses := true, apart := false }
def LogReadsSaid : Prop := logReadsRow.holds Try.pinned (OpenSpec.ofChange logReadsSpec)

/-- ITS FALSE NEIGHBOUR: 'it returns false'. Refute it at one input. -/
def logReadsWrong : ChangeSpec := { name := "logReads", fn := fun _ => fun
  | [d] => { results := [.lit (.bool false)], args := [d] }
  | _ => none }
def LogReadsWrongFalsely : Prop := logReadsRow.holds Try.pinned (OpenSpec.ofChange logReadsWrong)

/-- 'shardloglaw18.LogSynced': WHATEVER THE INPUT: true; the input reads as it did. -/
def logSyncedSpec : ChangeSpec := { name := "logSynced", fn := fun _ => fun
  | [d1, d2, d3] => { results := [.lit (.bool true)], args := [d1, d2, d3] }
  | _ => none }
def logSyncedRow : OpenClaim := { program := "ytoflmhdgojenpaa", sum := "ae57ff5d95446c77abbb7b955325ac2cc961887d1bbe0cf23ad879b3472dee9f", func := "shardlog/shardloglaw18.LogSynced", spec := "logSynced", unfollowed := true, recurses := true, apart := false }
def LogSyncedSaid : Prop := logSyncedRow.holds Try.pinned (OpenSpec.ofChange logSyncedSpec)

/-- ITS FALSE NEIGHBOUR: 'it returns false'. Refute it at one input. -/
def logSyncedWrong : ChangeSpec := { name := "logSynced", fn := fun _ => fun
  | [d1, d2, d3] => { results := [.lit (.bool false)], args := [d1, d2, d3] }
  | _ => none }
def LogSyncedWrongFalsely : Prop := logSyncedRow.holds Try.pinned (OpenSpec.ofChange logSyncedWrong)

/-- 'shardloglaw21.AcceptHears': WHATEVER THE INPUT: true; the input reads as it did. -/
def acceptHearsSpec : ChangeSpec := { name := "acceptHears", fn := fun _ => fun
  | [d1, d2] => { results := [.lit (.bool true)], args := [d1, d2] }
  | _ => none }
def acceptHearsRow : OpenClaim := { program := "ytoflmhdgojenpaa", sum := "ae57ff5d95446c77abbb7b955325ac2cc961887d1bbe0cf23ad879b3472dee9f", func := "shardlog/shardloglaw21.AcceptHears", spec := "acceptHears", unfollowed := true, recurses := true, apart := false }
def AcceptHearsSaid : Prop := acceptHearsRow.holds Try.pinned (OpenSpec.ofChange acceptHearsSpec)

/-- ITS FALSE NEIGHBOUR: 'it returns false'. Refute it at one input. -/
def acceptHearsWrong : ChangeSpec := { name := "acceptHears", fn := fun _ => fun
  | [d1, d2] => { results := [.lit (.bool false)], args := [d1, d2] }
  | _ => none }
def AcceptHearsWrongFalsely : Prop := acceptHearsRow.holds Try.pinned (OpenSpec.ofChange acceptHearsWrong)

/-- 'shardloglaw21.AcceptTwice': WHATEVER THE INPUT: true; the input reads as it did. -/
def acceptTwiceSpec : ChangeSpec := { name := "acceptTwice", fn := fun _ => fun
  | [d1, d2] => { results := [.lit (.bool true)], args := [d1, d2] }
  | _ => none }
def acceptTwiceRow : OpenClaim := { program := "ytoflmhdgojenpaa", sum := "ae57ff5d95446c77abbb7b955325ac2cc961887d1bbe0cf23ad879b3472dee9f", func := "shardlog/shardloglaw21.AcceptTwice", spec := "acceptTwice", unfollowed := true, recurses := true, apart := false }
def AcceptTwiceSaid : Prop := acceptTwiceRow.holds Try.pinned (OpenSpec.ofChange acceptTwiceSpec)

/-- ITS FALSE NEIGHBOUR: 'it returns false'. Refute it at one input. -/
def acceptTwiceWrong : ChangeSpec := { name := "acceptTwice", fn := fun _ => fun
  | [d1, d2] => { results := [.lit (.bool false)], args := [d1, d2] }
  | _ => none }
def AcceptTwiceWrongFalsely : Prop := acceptTwiceRow.holds Try.pinned (OpenSpec.ofChange acceptTwiceWrong)

/- THE SECOND FORM. 'bulk': how many values and letters a reading holds, each counted each time it is reached (what is shared counts as often as it is met; a slice's spare places count too). A statement '..UptoSaid' is the law's where the arguments, and the package variables that the reading takes, are together of bulk at most 1048576: NARROWER than '..Said'. Prove '..Said' where nothing that the law and all that it calls make is longer than what came in: it says more and counts as full. Else prove '..UptoSaid'. A law counts once. -/
mutual
def uptoBulk {H : Type} : DataW H → Nat
  | .lit (.string bytes) => bytes.length + 1
  | .lit _ => 1
  | .nil => 1
  | .ptr d => uptoBulk d + 1
  | .slice elems spare => uptoBulkAll elems + uptoBulkAll spare + 1
  | .agg parts => uptoBulkAll parts + 1
  | .iface _ d => uptoBulk d + 1
  | .map entries => uptoBulkEntries entries + 1
  | .held _ => 1
def uptoBulkAll {H : Type} : List (DataW H) → Nat
  | [] => 0
  | d :: r => uptoBulk d + uptoBulkAll r
def uptoBulkEntries {H : Type} : List (Lit × DataW H) → Nat
  | [] => 0
  | x :: r => uptoBulkEntry x + uptoBulkEntries r
def uptoBulkEntry {H : Type} : Lit × DataW H → Nat
  | (.string bytes, d) => bytes.length + uptoBulk d + 1
  | (_, d) => uptoBulk d + 1
 end
def uptoSmall : (H : Type) → List (DataW H) → Bool := fun _ ds => decide (uptoBulkAll ds ≤ 1048576)
def OpenSpec.upto (s : _root_.Go.ChangeSpec) : _root_.Go.OpenSpec := { _root_.Go.OpenSpec.ofChange s with cond := some uptoSmall }

/-- 'shardloglaw07.DiskKeeps', WHERE WHAT IT READS IS OF BULK AT MOST 1048576: true; the input reads as it did. -/
def diskKeepsUptoRow : OpenClaim := { program := "ytoflmhdgojenpaa", sum := "ae57ff5d95446c77abbb7b955325ac2cc961887d1bbe0cf23ad879b3472dee9f", func := "shardlog/shardloglaw07.DiskKeeps", spec := "diskKeeps", unfollowed := true, recurses := true, apart := false, narrowed := true }
def DiskKeepsUptoSaid : Prop := diskKeepsUptoRow.holds Try.pinned (OpenSpec.upto diskKeepsSpec)

/-- 'shardloglaw07.DiskActs', WHERE WHAT IT READS IS OF BULK AT MOST 1048576: true; the input reads as it did. -/
def diskActsUptoRow : OpenClaim := { program := "ytoflmhdgojenpaa", sum := "ae57ff5d95446c77abbb7b955325ac2cc961887d1bbe0cf23ad879b3472dee9f", func := "shardlog/shardloglaw07.DiskActs", spec := "diskActs", unfollowed := true, recurses := true, apart := false, narrowed := true }
def DiskActsUptoSaid : Prop := diskActsUptoRow.holds Try.pinned (OpenSpec.upto diskActsSpec)

/-- 'shardloglaw07.DiskSynced', WHERE WHAT IT READS IS OF BULK AT MOST 1048576: true; the input reads as it did. -/
def diskSyncedUptoRow : OpenClaim := { program := "ytoflmhdgojenpaa", sum := "ae57ff5d95446c77abbb7b955325ac2cc961887d1bbe0cf23ad879b3472dee9f", func := "shardlog/shardloglaw07.DiskSynced", spec := "diskSynced", unfollowed := true, recurses := true, apart := false, narrowed := true }
def DiskSyncedUptoSaid : Prop := diskSyncedUptoRow.holds Try.pinned (OpenSpec.upto diskSyncedSpec)

/-- 'shardloglaw18.LogKeeps', WHERE WHAT IT READS IS OF BULK AT MOST 1048576: true; the input reads as it did. -/
def logKeepsUptoRow : OpenClaim := { program := "ytoflmhdgojenpaa", sum := "ae57ff5d95446c77abbb7b955325ac2cc961887d1bbe0cf23ad879b3472dee9f", func := "shardlog/shardloglaw18.LogKeeps", spec := "logKeeps", unfollowed := true, recurses := true, apart := false, narrowed := true }
def LogKeepsUptoSaid : Prop := logKeepsUptoRow.holds Try.pinned (OpenSpec.upto logKeepsSpec)

/-- 'shardloglaw18.LogCompacts', WHERE WHAT IT READS IS OF BULK AT MOST 1048576: true; the input reads as it did. -/
def logCompactsUptoRow : OpenClaim := { program := "ytoflmhdgojenpaa", sum := "ae57ff5d95446c77abbb7b955325ac2cc961887d1bbe0cf23ad879b3472dee9f", func := "shardlog/shardloglaw18.LogCompacts", spec := "logCompacts", unfollowed := true, recurses := true, apart := false, narrowed := true }
def LogCompactsUptoSaid : Prop := logCompactsUptoRow.holds Try.pinned (OpenSpec.upto logCompactsSpec)

/-- 'shardloglaw18.LogReads', WHERE WHAT IT READS IS OF BULK AT MOST 1048576: true; the input reads as it did. -/
def logReadsUptoRow : OpenClaim := { program := "ytoflmhdgojenpaa", sum := "ae57ff5d95446c77abbb7b955325ac2cc961887d1bbe0cf23ad879b3472dee9f", func := "shardlog/shardloglaw18.LogReads", spec := "logReads", unfollowed := true, recurses := true, apart := false, narrowed := true }
def LogReadsUptoSaid : Prop := logReadsUptoRow.holds Try.pinned (OpenSpec.upto logReadsSpec)

/-- 'shardloglaw18.LogSynced', WHERE WHAT IT READS IS OF BULK AT MOST 1048576: true; the input reads as it did. -/
def logSyncedUptoRow : OpenClaim := { program := "ytoflmhdgojenpaa", sum := "ae57ff5d95446c77abbb7b955325ac2cc961887d1bbe0cf23ad879b3472dee9f", func := "shardlog/shardloglaw18.LogSynced", spec := "logSynced", unfollowed := true, recurses := true, apart := false, narrowed := true }
def LogSyncedUptoSaid : Prop := logSyncedUptoRow.holds Try.pinned (OpenSpec.upto logSyncedSpec)

/-- 'shardloglaw21.AcceptHears', WHERE WHAT IT READS IS OF BULK AT MOST 1048576: true; the input reads as it did. -/
def acceptHearsUptoRow : OpenClaim := { program := "ytoflmhdgojenpaa", sum := "ae57ff5d95446c77abbb7b955325ac2cc961887d1bbe0cf23ad879b3472dee9f", func := "shardlog/shardloglaw21.AcceptHears", spec := "acceptHears", unfollowed := true, recurses := true, apart := false, narrowed := true }
def AcceptHearsUptoSaid : Prop := acceptHearsUptoRow.holds Try.pinned (OpenSpec.upto acceptHearsSpec)

/-- 'shardloglaw21.AcceptTwice', WHERE WHAT IT READS IS OF BULK AT MOST 1048576: true; the input reads as it did. -/
def acceptTwiceUptoRow : OpenClaim := { program := "ytoflmhdgojenpaa", sum := "ae57ff5d95446c77abbb7b955325ac2cc961887d1bbe0cf23ad879b3472dee9f", func := "shardlog/shardloglaw21.AcceptTwice", spec := "acceptTwice", unfollowed := true, recurses := true, apart := false, narrowed := true }
def AcceptTwiceUptoSaid : Prop := acceptTwiceUptoRow.holds Try.pinned (OpenSpec.upto acceptTwiceSpec)

end Rows
end Go.Proofs.Ytoflmhdgojenpaa
