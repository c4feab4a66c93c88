/-
  No cell of these rows narrows 'for every input' (looked for: loops, veiled, ifaces, maps, wideKeys, modest, calm, conditions, laid).
  DERIVED. THE GIVEN ROWS OF THIS SEAT. 8 by the template 'for every input the law returns true; each argument reads behind the call as it read before'; 0 by the template 'total and deterministic' (their statements: YtikogdkjmnpfcaaTotals.lean).
  GIVEN WITH THE SEED: the statements are not yours to turn. If you find one false, say at which input.
  Laid BY PROGRAM, IN A SANDBOX (cutbox-rows.mjs): the forced cells as the released guide's own fill.sh prints them over the translation 5780804db49002ae… (all of the seat's roots in one cut). By AI agents, Wed Nov 11 2026. No macro, syntax, notation, axiom, sorry.
-/
import Derived.Test.YtikogdkjmnpfcaaChecked
import GoSem.Claim
import GoSem.ClaimJoined
import GoSem.ClaimMapViews
import Derived.JoinedTies
import Derived.KernelRfl
namespace Go.Proofs.Ytikogdkjmnpfcaa
/- THE CELL 'sum', in the pinned program and in every row, IS THE sha256 OF THE DUMP (.gsa) THAT YtikogdkjmnpfcaaProg.lean LOADS. Nothing in Lean hashes anything: it is a label: what it is worth is what the hold of that sum in a sandbox is worth. -/
noncomputable def Try.pinned : Pinned := { name := "ytikogdkjmnpfcaa", sum := "5780804db49002ae3f7c692078b895e427d777431dee4ad739414e6fc9402a32", checked := Try.checked }
namespace Rows
def none {H : Type} : Left H := { results := [], args := [] }

/-- 'keelsonlaw30.MemberTells': WHATEVER THE INPUT: true; the input reads as it did. -/
def memberTellsSpec : ChangeSpec := { name := "memberTells", fn := fun _ => fun
  | [d1, d2, d3, d4, d5] => { results := [.lit (.bool true)], args := [d1, d2, d3, d4, d5] }
  | _ => none }
def memberTellsRow : OpenClaim := { program := "ytikogdkjmnpfcaa", sum := "5780804db49002ae3f7c692078b895e427d777431dee4ad739414e6fc9402a32", func := "keelson/keelsonlaw30.MemberTells", spec := "memberTells", unfollowed := true, recurses := true, apart := false }
def MemberTellsSaid : Prop := memberTellsRow.holds Try.pinned (OpenSpec.ofChange memberTellsSpec)

/-- ITS FALSE NEIGHBOUR: 'it returns false'. Refute it at one input. -/
def memberTellsWrong : ChangeSpec := { name := "memberTells", fn := fun _ => fun
  | [d1, d2, d3, d4, d5] => { results := [.lit (.bool false)], args := [d1, d2, d3, d4, d5] }
  | _ => none }
def MemberTellsWrongFalsely : Prop := memberTellsRow.holds Try.pinned (OpenSpec.ofChange memberTellsWrong)

/-- 'keelsonlaw30.MemberMeet': WHATEVER THE INPUT: true; the input reads as it did. -/
def memberMeetSpec : ChangeSpec := { name := "memberMeet", fn := fun _ => fun
  | [d1, d2, d3, d4, d5] => { results := [.lit (.bool true)], args := [d1, d2, d3, d4, d5] }
  | _ => none }
def memberMeetRow : OpenClaim := { program := "ytikogdkjmnpfcaa", sum := "5780804db49002ae3f7c692078b895e427d777431dee4ad739414e6fc9402a32", func := "keelson/keelsonlaw30.MemberMeet", spec := "memberMeet", unfollowed := true, recurses := true, apart := false }
def MemberMeetSaid : Prop := memberMeetRow.holds Try.pinned (OpenSpec.ofChange memberMeetSpec)

/-- ITS FALSE NEIGHBOUR: 'it returns false'. Refute it at one input. -/
def memberMeetWrong : ChangeSpec := { name := "memberMeet", fn := fun _ => fun
  | [d1, d2, d3, d4, d5] => { results := [.lit (.bool false)], args := [d1, d2, d3, d4, d5] }
  | _ => none }
def MemberMeetWrongFalsely : Prop := memberMeetRow.holds Try.pinned (OpenSpec.ofChange memberMeetWrong)

/-- 'keelsonlaw29.ChainMatch': WHATEVER THE INPUT: true; the input reads as it did. -/
def chainMatchSpec : ChangeSpec := { name := "chainMatch", fn := fun _ => fun
  | [d1, d2, d3] => { results := [.lit (.bool true)], args := [d1, d2, d3] }
  | _ => none }
def chainMatchRow : OpenClaim := { program := "ytikogdkjmnpfcaa", sum := "5780804db49002ae3f7c692078b895e427d777431dee4ad739414e6fc9402a32", func := "keelson/keelsonlaw29.ChainMatch", spec := "chainMatch", unfollowed := true, recurses := true, apart := false }
def ChainMatchSaid : Prop := chainMatchRow.holds Try.pinned (OpenSpec.ofChange chainMatchSpec)

/-- ITS FALSE NEIGHBOUR: 'it returns false'. Refute it at one input. -/
def chainMatchWrong : ChangeSpec := { name := "chainMatch", fn := fun _ => fun
  | [d1, d2, d3] => { results := [.lit (.bool false)], args := [d1, d2, d3] }
  | _ => none }
def ChainMatchWrongFalsely : Prop := chainMatchRow.holds Try.pinned (OpenSpec.ofChange chainMatchWrong)

/-- 'keelsonlaw29.ChainRises': WHATEVER THE INPUT: true; the input reads as it did. -/
def chainRisesSpec : ChangeSpec := { name := "chainRises", fn := fun _ => fun
  | [d1, d2, d3] => { results := [.lit (.bool true)], args := [d1, d2, d3] }
  | _ => none }
def chainRisesRow : OpenClaim := { program := "ytikogdkjmnpfcaa", sum := "5780804db49002ae3f7c692078b895e427d777431dee4ad739414e6fc9402a32", func := "keelson/keelsonlaw29.ChainRises", spec := "chainRises", unfollowed := true, recurses := true, apart := false }
def ChainRisesSaid : Prop := chainRisesRow.holds Try.pinned (OpenSpec.ofChange chainRisesSpec)

/-- ITS FALSE NEIGHBOUR: 'it returns false'. Refute it at one input. -/
def chainRisesWrong : ChangeSpec := { name := "chainRises", fn := fun _ => fun
  | [d1, d2, d3] => { results := [.lit (.bool false)], args := [d1, d2, d3] }
  | _ => none }
def ChainRisesWrongFalsely : Prop := chainRisesRow.holds Try.pinned (OpenSpec.ofChange chainRisesWrong)

/-- 'keelsonlaw35.DecreeTells': WHATEVER THE INPUT: true; the input reads as it did. -/
def decreeTellsSpec : ChangeSpec := { name := "decreeTells", fn := fun _ => fun
  | [d] => { results := [.lit (.bool true)], args := [d] }
  | _ => none }
def decreeTellsRow : OpenClaim := { program := "ytikogdkjmnpfcaa", sum := "5780804db49002ae3f7c692078b895e427d777431dee4ad739414e6fc9402a32", func := "keelson/keelsonlaw35.DecreeTells", spec := "decreeTells", unfollowed := true, recurses := true, apart := false }
def DecreeTellsSaid : Prop := decreeTellsRow.holds Try.pinned (OpenSpec.ofChange decreeTellsSpec)

/-- ITS FALSE NEIGHBOUR: 'it returns false'. Refute it at one input. -/
def decreeTellsWrong : ChangeSpec := { name := "decreeTells", fn := fun _ => fun
  | [d] => { results := [.lit (.bool false)], args := [d] }
  | _ => none }
def DecreeTellsWrongFalsely : Prop := decreeTellsRow.holds Try.pinned (OpenSpec.ofChange decreeTellsWrong)

/-- 'keelsonlaw35.DecreeReads': WHATEVER THE INPUT: true; the input reads as it did. -/
def decreeReadsSpec : ChangeSpec := { name := "decreeReads", fn := fun _ => fun
  | [d] => { results := [.lit (.bool true)], args := [d] }
  | _ => none }
def decreeReadsRow : OpenClaim := { program := "ytikogdkjmnpfcaa", sum := "5780804db49002ae3f7c692078b895e427d777431dee4ad739414e6fc9402a32", func := "keelson/keelsonlaw35.DecreeReads", spec := "decreeReads", unfollowed := true, recurses := true, apart := false }
def DecreeReadsSaid : Prop := decreeReadsRow.holds Try.pinned (OpenSpec.ofChange decreeReadsSpec)

/-- ITS FALSE NEIGHBOUR: 'it returns false'. Refute it at one input. -/
def decreeReadsWrong : ChangeSpec := { name := "decreeReads", fn := fun _ => fun
  | [d] => { results := [.lit (.bool false)], args := [d] }
  | _ => none }
def DecreeReadsWrongFalsely : Prop := decreeReadsRow.holds Try.pinned (OpenSpec.ofChange decreeReadsWrong)

/-- 'keelsonlaw29.ChainPlays': WHATEVER THE INPUT: true; the input reads as it did. -/
def chainPlaysSpec : ChangeSpec := { name := "chainPlays", fn := fun _ => fun
  | [d1, d2, d3] => { results := [.lit (.bool true)], args := [d1, d2, d3] }
  | _ => none }
def chainPlaysRow : OpenClaim := { program := "ytikogdkjmnpfcaa", sum := "5780804db49002ae3f7c692078b895e427d777431dee4ad739414e6fc9402a32", func := "keelson/keelsonlaw29.ChainPlays", spec := "chainPlays", unfollowed := true, recurses := true, apart := false }
def ChainPlaysSaid : Prop := chainPlaysRow.holds Try.pinned (OpenSpec.ofChange chainPlaysSpec)

/-- ITS FALSE NEIGHBOUR: 'it returns false'. Refute it at one input. -/
def chainPlaysWrong : ChangeSpec := { name := "chainPlays", fn := fun _ => fun
  | [d1, d2, d3] => { results := [.lit (.bool false)], args := [d1, d2, d3] }
  | _ => none }
def ChainPlaysWrongFalsely : Prop := chainPlaysRow.holds Try.pinned (OpenSpec.ofChange chainPlaysWrong)

/-- 'keelsonlaw30.MemberLast': WHATEVER THE INPUT: true; the input reads as it did. -/
def memberLastSpec : ChangeSpec := { name := "memberLast", fn := fun _ => fun
  | [d1, d2, d3, d4, d5] => { results := [.lit (.bool true)], args := [d1, d2, d3, d4, d5] }
  | _ => none }
def memberLastRow : OpenClaim := { program := "ytikogdkjmnpfcaa", sum := "5780804db49002ae3f7c692078b895e427d777431dee4ad739414e6fc9402a32", func := "keelson/keelsonlaw30.MemberLast", spec := "memberLast", unfollowed := true, recurses := true, apart := false }
def MemberLastSaid : Prop := memberLastRow.holds Try.pinned (OpenSpec.ofChange memberLastSpec)

/-- ITS FALSE NEIGHBOUR: 'it returns false'. Refute it at one input. -/
def memberLastWrong : ChangeSpec := { name := "memberLast", fn := fun _ => fun
  | [d1, d2, d3, d4, d5] => { results := [.lit (.bool false)], args := [d1, d2, d3, d4, d5] }
  | _ => none }
def MemberLastWrongFalsely : Prop := memberLastRow.holds Try.pinned (OpenSpec.ofChange memberLastWrong)

/- THE SECOND FORM. 'bulk': how many values and letters a reading holds, each counted each time it is reached (what is shared counts as often as it is met; a slice's spare places count too). A statement '..UptoSaid' is the law's where the arguments, and the package variables that the reading takes, are together of bulk at most 1048576: NARROWER than '..Said'. Prove '..Said' where nothing that the law and all that it calls make is longer than what came in: it says more and counts as full. Else prove '..UptoSaid'. A law counts once. -/
mutual
def uptoBulk {H : Type} : DataW H → Nat
  | .lit (.string bytes) => bytes.length + 1
  | .lit _ => 1
  | .nil => 1
  | .ptr d => uptoBulk d + 1
  | .slice elems spare => uptoBulkAll elems + uptoBulkAll spare + 1
  | .agg parts => uptoBulkAll parts + 1
  | .iface _ d => uptoBulk d + 1
  | .map entries => uptoBulkEntries entries + 1
  | .held _ => 1
def uptoBulkAll {H : Type} : List (DataW H) → Nat
  | [] => 0
  | d :: r => uptoBulk d + uptoBulkAll r
def uptoBulkEntries {H : Type} : List (Lit × DataW H) → Nat
  | [] => 0
  | x :: r => uptoBulkEntry x + uptoBulkEntries r
def uptoBulkEntry {H : Type} : Lit × DataW H → Nat
  | (.string bytes, d) => bytes.length + uptoBulk d + 1
  | (_, d) => uptoBulk d + 1
 end
def uptoSmall : (H : Type) → List (DataW H) → Bool := fun _ ds => decide (uptoBulkAll ds ≤ 1048576)
def OpenSpec.upto (s : _root_.Go.ChangeSpec) : _root_.Go.OpenSpec := { _root_.Go.OpenSpec.ofChange s with cond := some uptoSmall }

/-- 'keelsonlaw30.MemberTells', WHERE WHAT IT READS IS OF BULK AT MOST 1048576: true; the input reads as it did. -/
def memberTellsUptoRow : OpenClaim := { program := "ytikogdkjmnpfcaa", sum := "5780804db49002ae3f7c692078b895e427d777431dee4ad739414e6fc9402a32", func := "keelson/keelsonlaw30.MemberTells", spec := "memberTells", unfollowed := true, recurses := true, apart := false, narrowed := true }
def MemberTellsUptoSaid : Prop := memberTellsUptoRow.holds Try.pinned (OpenSpec.upto memberTellsSpec)

/-- 'keelsonlaw30.MemberMeet', WHERE WHAT IT READS IS OF BULK AT MOST 1048576: true; the input reads as it did. -/
def memberMeetUptoRow : OpenClaim := { program := "ytikogdkjmnpfcaa", sum := "5780804db49002ae3f7c692078b895e427d777431dee4ad739414e6fc9402a32", func := "keelson/keelsonlaw30.MemberMeet", spec := "memberMeet", unfollowed := true, recurses := true, apart := false, narrowed := true }
def MemberMeetUptoSaid : Prop := memberMeetUptoRow.holds Try.pinned (OpenSpec.upto memberMeetSpec)

/-- 'keelsonlaw29.ChainMatch', WHERE WHAT IT READS IS OF BULK AT MOST 1048576: true; the input reads as it did. -/
def chainMatchUptoRow : OpenClaim := { program := "ytikogdkjmnpfcaa", sum := "5780804db49002ae3f7c692078b895e427d777431dee4ad739414e6fc9402a32", func := "keelson/keelsonlaw29.ChainMatch", spec := "chainMatch", unfollowed := true, recurses := true, apart := false, narrowed := true }
def ChainMatchUptoSaid : Prop := chainMatchUptoRow.holds Try.pinned (OpenSpec.upto chainMatchSpec)

/-- 'keelsonlaw29.ChainRises', WHERE WHAT IT READS IS OF BULK AT MOST 1048576: true; the input reads as it did. -/
def chainRisesUptoRow : OpenClaim := { program := "ytikogdkjmnpfcaa", sum := "5780804db49002ae3f7c692078b895e427d777431dee4ad739414e6fc9402a32", func := "keelson/keelsonlaw29.ChainRises", spec := "chainRises", unfollowed := true, recurses := true, apart := false, narrowed := true }
def ChainRisesUptoSaid : Prop := chainRisesUptoRow.holds Try.pinned (OpenSpec.upto chainRisesSpec)

/-- 'keelsonlaw35.DecreeTells', WHERE WHAT IT READS IS OF BULK AT MOST 1048576: true; the input reads as it did. -/
def decreeTellsUptoRow : OpenClaim := { program := "ytikogdkjmnpfcaa", sum := "5780804db49002ae3f7c692078b895e427d777431dee4ad739414e6fc9402a32", func := "keelson/keelsonlaw35.DecreeTells", spec := "decreeTells", unfollowed := true, recurses := true, apart := false, narrowed := true }
def DecreeTellsUptoSaid : Prop := decreeTellsUptoRow.holds Try.pinned (OpenSpec.upto decreeTellsSpec)

/-- 'keelsonlaw35.DecreeReads', WHERE WHAT IT READS IS OF BULK AT MOST 1048576: true; the input reads as it did. -/
def decreeReadsUptoRow : OpenClaim := { program := "ytikogdkjmnpfcaa", sum := "5780804db49002ae3f7c692078b895e427d777431dee4ad739414e6fc9402a32", func := "keelson/keelsonlaw35.DecreeReads", spec := "decreeReads", unfollowed := true, recurses := true, apart := false, narrowed := true }
def DecreeReadsUptoSaid : Prop := decreeReadsUptoRow.holds Try.pinned (OpenSpec.upto decreeReadsSpec)

/-- 'keelsonlaw29.ChainPlays', WHERE WHAT IT READS IS OF BULK AT MOST 1048576: true; the input reads as it did. -/
def chainPlaysUptoRow : OpenClaim := { program := "ytikogdkjmnpfcaa", sum := "5780804db49002ae3f7c692078b895e427d777431dee4ad739414e6fc9402a32", func := "keelson/keelsonlaw29.ChainPlays", spec := "chainPlays", unfollowed := true, recurses := true, apart := false, narrowed := true }
def ChainPlaysUptoSaid : Prop := chainPlaysUptoRow.holds Try.pinned (OpenSpec.upto chainPlaysSpec)

/-- 'keelsonlaw30.MemberLast', WHERE WHAT IT READS IS OF BULK AT MOST 1048576: true; the input reads as it did. -/
def memberLastUptoRow : OpenClaim := { program := "ytikogdkjmnpfcaa", sum := "5780804db49002ae3f7c692078b895e427d777431dee4ad739414e6fc9402a32", func := "keelson/keelsonlaw30.MemberLast", spec := "memberLast", unfollowed := true, recurses := true, apart := false, narrowed := true }
def MemberLastUptoSaid : Prop := memberLastUptoRow.holds Try.pinned (OpenSpec.upto memberLastSpec)

end Rows
end Go.Proofs.Ytikogdkjmnpfcaa
