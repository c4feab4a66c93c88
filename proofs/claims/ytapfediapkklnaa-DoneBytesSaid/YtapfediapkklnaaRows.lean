/-
  No cell of these rows narrows 'for every input' (looked for: loops, veiled, ifaces, maps, wideKeys, modest, calm, conditions, laid).
  DERIVED. THE GIVEN ROWS OF THIS SEAT. 7 by the template 'for every input the law returns true; each argument reads behind the call as it read before'; 0 by the template 'total and deterministic' (their statements: YtapfediapkklnaaTotals.lean).
  GIVEN WITH THE SEED: the statements are not yours to turn. If you find one false, say at which input.
  Laid BY PROGRAM, IN A SANDBOX (cutbox-rows.mjs): the forced cells as the released guide's own fill.sh prints them over the translation d31501c3348d091d… (all of the seat's roots in one cut). By AI agents, Wed Nov 11 2026. No macro, syntax, notation, axiom, sorry.
-/
import Derived.Test.YtapfediapkklnaaChecked
import GoSem.Claim
import GoSem.ClaimJoined
import GoSem.ClaimMapViews
import Derived.JoinedTies
import Derived.KernelRfl
namespace Go.Proofs.Ytapfediapkklnaa
/- THE CELL 'sum', in the pinned program and in every row, IS THE sha256 OF THE DUMP (.gsa) THAT YtapfediapkklnaaProg.lean LOADS. Nothing in Lean hashes anything: it is a label: what it is worth is what the hold of that sum in a sandbox is worth. -/
noncomputable def Try.pinned : Pinned := { name := "ytapfediapkklnaa", sum := "d31501c3348d091d4c5acc314c83c38926023891760a1f07c4cfb43cf76cbc57", checked := Try.checked }
namespace Rows
def none {H : Type} : Left H := { results := [], args := [] }

/-- 'keelsonlaw14.DoneTells': WHATEVER THE INPUT: true; the input reads as it did. -/
def doneTellsSpec : ChangeSpec := { name := "doneTells", fn := fun _ => fun
  | [d1, d2, d3] => { results := [.lit (.bool true)], args := [d1, d2, d3] }
  | _ => none }
def doneTellsRow : OpenClaim := { program := "ytapfediapkklnaa", sum := "d31501c3348d091d4c5acc314c83c38926023891760a1f07c4cfb43cf76cbc57", func := "keelson/keelsonlaw14.DoneTells", spec := "doneTells", unfollowed := true, recurses := true, apart := false }
def DoneTellsSaid : Prop := doneTellsRow.holds Try.pinned (OpenSpec.ofChange doneTellsSpec)

/-- ITS FALSE NEIGHBOUR: 'it returns false'. Refute it at one input. -/
def doneTellsWrong : ChangeSpec := { name := "doneTells", fn := fun _ => fun
  | [d1, d2, d3] => { results := [.lit (.bool false)], args := [d1, d2, d3] }
  | _ => none }
def DoneTellsWrongFalsely : Prop := doneTellsRow.holds Try.pinned (OpenSpec.ofChange doneTellsWrong)

/-- 'keelsonlaw14.DoneOrder': WHATEVER THE INPUT: true; the input reads as it did. -/
def doneOrderSpec : ChangeSpec := { name := "doneOrder", fn := fun _ => fun
  | [d] => { results := [.lit (.bool true)], args := [d] }
  | _ => none }
def doneOrderRow : OpenClaim := { program := "ytapfediapkklnaa", sum := "d31501c3348d091d4c5acc314c83c38926023891760a1f07c4cfb43cf76cbc57", func := "keelson/keelsonlaw14.DoneOrder", spec := "doneOrder", unfollowed := true, recurses := true, apart := false }
def DoneOrderSaid : Prop := doneOrderRow.holds Try.pinned (OpenSpec.ofChange doneOrderSpec)

/-- ITS FALSE NEIGHBOUR: 'it returns false'. Refute it at one input. -/
def doneOrderWrong : ChangeSpec := { name := "doneOrder", fn := fun _ => fun
  | [d] => { results := [.lit (.bool false)], args := [d] }
  | _ => none }
def DoneOrderWrongFalsely : Prop := doneOrderRow.holds Try.pinned (OpenSpec.ofChange doneOrderWrong)

/-- 'keelsonlaw14.DoneOnce': WHATEVER THE INPUT: true; the input reads as it did. -/
def doneOnceSpec : ChangeSpec := { name := "doneOnce", fn := fun _ => fun
  | [d1, d2, d3] => { results := [.lit (.bool true)], args := [d1, d2, d3] }
  | _ => none }
def doneOnceRow : OpenClaim := { program := "ytapfediapkklnaa", sum := "d31501c3348d091d4c5acc314c83c38926023891760a1f07c4cfb43cf76cbc57", func := "keelson/keelsonlaw14.DoneOnce", spec := "doneOnce", unfollowed := true, recurses := true, apart := false }
def DoneOnceSaid : Prop := doneOnceRow.holds Try.pinned (OpenSpec.ofChange doneOnceSpec)

/-- ITS FALSE NEIGHBOUR: 'it returns false'. Refute it at one input. -/
def doneOnceWrong : ChangeSpec := { name := "doneOnce", fn := fun _ => fun
  | [d1, d2, d3] => { results := [.lit (.bool false)], args := [d1, d2, d3] }
  | _ => none }
def DoneOnceWrongFalsely : Prop := doneOnceRow.holds Try.pinned (OpenSpec.ofChange doneOnceWrong)

/-- 'keelsonlaw10.BehindMakes': WHATEVER THE INPUT: true; the input reads as it did. -/
def behindMakesSpec : ChangeSpec := { name := "behindMakes", fn := fun _ => fun
  | [d1, d2] => { results := [.lit (.bool true)], args := [d1, d2] }
  | _ => none }
def behindMakesRow : OpenClaim := { program := "ytapfediapkklnaa", sum := "d31501c3348d091d4c5acc314c83c38926023891760a1f07c4cfb43cf76cbc57", func := "keelson/keelsonlaw10.BehindMakes", spec := "behindMakes", apart := false }
def BehindMakesSaid : Prop := behindMakesRow.holds Try.pinned (OpenSpec.ofChange behindMakesSpec)

/-- ITS FALSE NEIGHBOUR: 'it returns false'. Refute it at one input. -/
def behindMakesWrong : ChangeSpec := { name := "behindMakes", fn := fun _ => fun
  | [d1, d2] => { results := [.lit (.bool false)], args := [d1, d2] }
  | _ => none }
def BehindMakesWrongFalsely : Prop := behindMakesRow.holds Try.pinned (OpenSpec.ofChange behindMakesWrong)

/-- 'keelsonlaw10.BehindTells': WHATEVER THE INPUT: true; the input reads as it did. -/
def behindTellsSpec : ChangeSpec := { name := "behindTells", fn := fun _ => fun
  | [d1, d2, d3] => { results := [.lit (.bool true)], args := [d1, d2, d3] }
  | _ => none }
def behindTellsRow : OpenClaim := { program := "ytapfediapkklnaa", sum := "d31501c3348d091d4c5acc314c83c38926023891760a1f07c4cfb43cf76cbc57", func := "keelson/keelsonlaw10.BehindTells", spec := "behindTells", apart := false }
def BehindTellsSaid : Prop := behindTellsRow.holds Try.pinned (OpenSpec.ofChange behindTellsSpec)

/-- ITS FALSE NEIGHBOUR: 'it returns false'. Refute it at one input. -/
def behindTellsWrong : ChangeSpec := { name := "behindTells", fn := fun _ => fun
  | [d1, d2, d3] => { results := [.lit (.bool false)], args := [d1, d2, d3] }
  | _ => none }
def BehindTellsWrongFalsely : Prop := behindTellsRow.holds Try.pinned (OpenSpec.ofChange behindTellsWrong)

/-- 'keelsonlaw10.BehindVoids': WHATEVER THE INPUT: true; the input reads as it did. -/
def behindVoidsSpec : ChangeSpec := { name := "behindVoids", fn := fun _ => fun
  | [d1, d2] => { results := [.lit (.bool true)], args := [d1, d2] }
  | _ => none }
def behindVoidsRow : OpenClaim := { program := "ytapfediapkklnaa", sum := "d31501c3348d091d4c5acc314c83c38926023891760a1f07c4cfb43cf76cbc57", func := "keelson/keelsonlaw10.BehindVoids", spec := "behindVoids", apart := false }
def BehindVoidsSaid : Prop := behindVoidsRow.holds Try.pinned (OpenSpec.ofChange behindVoidsSpec)

/-- ITS FALSE NEIGHBOUR: 'it returns false'. Refute it at one input. -/
def behindVoidsWrong : ChangeSpec := { name := "behindVoids", fn := fun _ => fun
  | [d1, d2] => { results := [.lit (.bool false)], args := [d1, d2] }
  | _ => none }
def BehindVoidsWrongFalsely : Prop := behindVoidsRow.holds Try.pinned (OpenSpec.ofChange behindVoidsWrong)

/-- 'keelsonlaw14.DoneBytes': WHATEVER THE INPUT: true; the input reads as it did. -/
def doneBytesSpec : ChangeSpec := { name := "doneBytes", fn := fun _ => fun
  | [d1, d2] => { results := [.lit (.bool true)], args := [d1, d2] }
  | _ => none }
def doneBytesRow : OpenClaim := { program := "ytapfediapkklnaa", sum := "d31501c3348d091d4c5acc314c83c38926023891760a1f07c4cfb43cf76cbc57", func := "keelson/keelsonlaw14.DoneBytes", spec := "doneBytes", unfollowed := true, recurses := true, apart := false }
def DoneBytesSaid : Prop := doneBytesRow.holds Try.pinned (OpenSpec.ofChange doneBytesSpec)

/-- ITS FALSE NEIGHBOUR: 'it returns false'. Refute it at one input. -/
def doneBytesWrong : ChangeSpec := { name := "doneBytes", fn := fun _ => fun
  | [d1, d2] => { results := [.lit (.bool false)], args := [d1, d2] }
  | _ => none }
def DoneBytesWrongFalsely : Prop := doneBytesRow.holds Try.pinned (OpenSpec.ofChange doneBytesWrong)

/- THE SECOND FORM. 'bulk': how many values and letters a reading holds, each counted each time it is reached (what is shared counts as often as it is met; a slice's spare places count too). A statement '..UptoSaid' is the law's where the arguments, and the package variables that the reading takes, are together of bulk at most 1048576: NARROWER than '..Said'. Prove '..Said' where nothing that the law and all that it calls make is longer than what came in: it says more and counts as full. Else prove '..UptoSaid'. A law counts once. -/
mutual
def uptoBulk {H : Type} : DataW H → Nat
  | .lit (.string bytes) => bytes.length + 1
  | .lit _ => 1
  | .nil => 1
  | .ptr d => uptoBulk d + 1
  | .slice elems spare => uptoBulkAll elems + uptoBulkAll spare + 1
  | .agg parts => uptoBulkAll parts + 1
  | .iface _ d => uptoBulk d + 1
  | .map entries => uptoBulkEntries entries + 1
  | .held _ => 1
def uptoBulkAll {H : Type} : List (DataW H) → Nat
  | [] => 0
  | d :: r => uptoBulk d + uptoBulkAll r
def uptoBulkEntries {H : Type} : List (Lit × DataW H) → Nat
  | [] => 0
  | x :: r => uptoBulkEntry x + uptoBulkEntries r
def uptoBulkEntry {H : Type} : Lit × DataW H → Nat
  | (.string bytes, d) => bytes.length + uptoBulk d + 1
  | (_, d) => uptoBulk d + 1
 end
def uptoSmall : (H : Type) → List (DataW H) → Bool := fun _ ds => decide (uptoBulkAll ds ≤ 1048576)
def OpenSpec.upto (s : _root_.Go.ChangeSpec) : _root_.Go.OpenSpec := { _root_.Go.OpenSpec.ofChange s with cond := some uptoSmall }

/-- 'keelsonlaw14.DoneTells', WHERE WHAT IT READS IS OF BULK AT MOST 1048576: true; the input reads as it did. -/
def doneTellsUptoRow : OpenClaim := { program := "ytapfediapkklnaa", sum := "d31501c3348d091d4c5acc314c83c38926023891760a1f07c4cfb43cf76cbc57", func := "keelson/keelsonlaw14.DoneTells", spec := "doneTells", unfollowed := true, recurses := true, apart := false, narrowed := true }
def DoneTellsUptoSaid : Prop := doneTellsUptoRow.holds Try.pinned (OpenSpec.upto doneTellsSpec)

/-- 'keelsonlaw14.DoneOrder', WHERE WHAT IT READS IS OF BULK AT MOST 1048576: true; the input reads as it did. -/
def doneOrderUptoRow : OpenClaim := { program := "ytapfediapkklnaa", sum := "d31501c3348d091d4c5acc314c83c38926023891760a1f07c4cfb43cf76cbc57", func := "keelson/keelsonlaw14.DoneOrder", spec := "doneOrder", unfollowed := true, recurses := true, apart := false, narrowed := true }
def DoneOrderUptoSaid : Prop := doneOrderUptoRow.holds Try.pinned (OpenSpec.upto doneOrderSpec)

/-- 'keelsonlaw14.DoneOnce', WHERE WHAT IT READS IS OF BULK AT MOST 1048576: true; the input reads as it did. -/
def doneOnceUptoRow : OpenClaim := { program := "ytapfediapkklnaa", sum := "d31501c3348d091d4c5acc314c83c38926023891760a1f07c4cfb43cf76cbc57", func := "keelson/keelsonlaw14.DoneOnce", spec := "doneOnce", unfollowed := true, recurses := true, apart := false, narrowed := true }
def DoneOnceUptoSaid : Prop := doneOnceUptoRow.holds Try.pinned (OpenSpec.upto doneOnceSpec)

/-- 'keelsonlaw10.BehindMakes', WHERE WHAT IT READS IS OF BULK AT MOST 1048576: true; the input reads as it did. -/
def behindMakesUptoRow : OpenClaim := { program := "ytapfediapkklnaa", sum := "d31501c3348d091d4c5acc314c83c38926023891760a1f07c4cfb43cf76cbc57", func := "keelson/keelsonlaw10.BehindMakes", spec := "behindMakes", apart := false, narrowed := true }
def BehindMakesUptoSaid : Prop := behindMakesUptoRow.holds Try.pinned (OpenSpec.upto behindMakesSpec)

/-- 'keelsonlaw10.BehindTells', WHERE WHAT IT READS IS OF BULK AT MOST 1048576: true; the input reads as it did. -/
def behindTellsUptoRow : OpenClaim := { program := "ytapfediapkklnaa", sum := "d31501c3348d091d4c5acc314c83c38926023891760a1f07c4cfb43cf76cbc57", func := "keelson/keelsonlaw10.BehindTells", spec := "behindTells", apart := false, narrowed := true }
def BehindTellsUptoSaid : Prop := behindTellsUptoRow.holds Try.pinned (OpenSpec.upto behindTellsSpec)

/-- 'keelsonlaw10.BehindVoids', WHERE WHAT IT READS IS OF BULK AT MOST 1048576: true; the input reads as it did. -/
def behindVoidsUptoRow : OpenClaim := { program := "ytapfediapkklnaa", sum := "d31501c3348d091d4c5acc314c83c38926023891760a1f07c4cfb43cf76cbc57", func := "keelson/keelsonlaw10.BehindVoids", spec := "behindVoids", apart := false, narrowed := true }
def BehindVoidsUptoSaid : Prop := behindVoidsUptoRow.holds Try.pinned (OpenSpec.upto behindVoidsSpec)

/-- 'keelsonlaw14.DoneBytes', WHERE WHAT IT READS IS OF BULK AT MOST 1048576: true; the input reads as it did. -/
def doneBytesUptoRow : OpenClaim := { program := "ytapfediapkklnaa", sum := "d31501c3348d091d4c5acc314c83c38926023891760a1f07c4cfb43cf76cbc57", func := "keelson/keelsonlaw14.DoneBytes", spec := "doneBytes", unfollowed := true, recurses := true, apart := false, narrowed := true }
def DoneBytesUptoSaid : Prop := doneBytesUptoRow.holds Try.pinned (OpenSpec.upto doneBytesSpec)

end Rows
end Go.Proofs.Ytapfediapkklnaa
