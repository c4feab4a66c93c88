/-
  No cell of these rows narrows 'for every input' (looked for: loops, veiled, ifaces, maps, wideKeys, modest, calm, conditions, laid).
  DERIVED. THE GIVEN ROWS OF THIS SEAT. 7 by the template 'for every input the law returns true; each argument reads behind the call as it read before'; 0 by the template 'total and deterministic' (their statements: YtlnafekmiidpkaaTotals.lean).
  GIVEN WITH THE SEED: the statements are not yours to turn. If you find one false, say at which input.
  Laid BY PROGRAM, IN A SANDBOX (cutbox-rows.mjs): the forced cells as the released guide's own fill.sh prints them over the translation 6ab266e43959014f… (all of the seat's roots in one cut). By AI agents, Wed Nov 11 2026. No macro, syntax, notation, axiom, sorry.
-/
import Derived.Test.YtlnafekmiidpkaaChecked
import GoSem.Claim
import GoSem.ClaimJoined
import GoSem.ClaimMapViews
import Derived.JoinedTies
import Derived.KernelRfl
namespace Go.Proofs.Ytlnafekmiidpkaa
/- THE CELL 'sum', in the pinned program and in every row, IS THE sha256 OF THE DUMP (.gsa) THAT YtlnafekmiidpkaaProg.lean LOADS. Nothing in Lean hashes anything: it is a label: what it is worth is what the hold of that sum in a sandbox is worth. -/
noncomputable def Try.pinned : Pinned := { name := "ytlnafekmiidpkaa", sum := "6ab266e43959014fba7bf3fc7d701a1871a04aec3d30f3eaf79ef44569b55816", checked := Try.checked }
namespace Rows
def none {H : Type} : Left H := { results := [], args := [] }

/-- 'keelsonlaw07.DeviceFirm': WHATEVER THE INPUT: true; the input reads as it did. -/
def deviceFirmSpec : ChangeSpec := { name := "deviceFirm", fn := fun _ => fun
  | [d1, d2, d3, d4] => { results := [.lit (.bool true)], args := [d1, d2, d3, d4] }
  | _ => none }
def deviceFirmRow : OpenClaim := { program := "ytlnafekmiidpkaa", sum := "6ab266e43959014fba7bf3fc7d701a1871a04aec3d30f3eaf79ef44569b55816", func := "keelson/keelsonlaw07.DeviceFirm", spec := "deviceFirm", unfollowed := true, recurses := true, apart := false }
def DeviceFirmSaid : Prop := deviceFirmRow.holds Try.pinned (OpenSpec.ofChange deviceFirmSpec)

/-- ITS FALSE NEIGHBOUR: 'it returns false'. Refute it at one input. -/
def deviceFirmWrong : ChangeSpec := { name := "deviceFirm", fn := fun _ => fun
  | [d1, d2, d3, d4] => { results := [.lit (.bool false)], args := [d1, d2, d3, d4] }
  | _ => none }
def DeviceFirmWrongFalsely : Prop := deviceFirmRow.holds Try.pinned (OpenSpec.ofChange deviceFirmWrong)

/-- 'keelsonlaw07.DeviceTorn': WHATEVER THE INPUT: true; the input reads as it did. -/
def deviceTornSpec : ChangeSpec := { name := "deviceTorn", fn := fun _ => fun
  | [d1, d2, d3, d4] => { results := [.lit (.bool true)], args := [d1, d2, d3, d4] }
  | _ => none }
def deviceTornRow : OpenClaim := { program := "ytlnafekmiidpkaa", sum := "6ab266e43959014fba7bf3fc7d701a1871a04aec3d30f3eaf79ef44569b55816", func := "keelson/keelsonlaw07.DeviceTorn", spec := "deviceTorn", unfollowed := true, recurses := true, apart := false }
def DeviceTornSaid : Prop := deviceTornRow.holds Try.pinned (OpenSpec.ofChange deviceTornSpec)

/-- ITS FALSE NEIGHBOUR: 'it returns false'. Refute it at one input. -/
def deviceTornWrong : ChangeSpec := { name := "deviceTorn", fn := fun _ => fun
  | [d1, d2, d3, d4] => { results := [.lit (.bool false)], args := [d1, d2, d3, d4] }
  | _ => none }
def DeviceTornWrongFalsely : Prop := deviceTornRow.holds Try.pinned (OpenSpec.ofChange deviceTornWrong)

/-- 'keelsonlaw07.DeviceDown': WHATEVER THE INPUT: true; the input reads as it did. -/
def deviceDownSpec : ChangeSpec := { name := "deviceDown", fn := fun _ => fun
  | [d1, d2] => { results := [.lit (.bool true)], args := [d1, d2] }
  | _ => none }
def deviceDownRow : OpenClaim := { program := "ytlnafekmiidpkaa", sum := "6ab266e43959014fba7bf3fc7d701a1871a04aec3d30f3eaf79ef44569b55816", func := "keelson/keelsonlaw07.DeviceDown", spec := "deviceDown", inPlace := ["maps.clone"], unfollowed := true, recurses := true, apart := false }
def DeviceDownSaid : Prop := deviceDownRow.holds Try.pinned (OpenSpec.ofChange deviceDownSpec)

/-- ITS FALSE NEIGHBOUR: 'it returns false'. Refute it at one input. -/
def deviceDownWrong : ChangeSpec := { name := "deviceDown", fn := fun _ => fun
  | [d1, d2] => { results := [.lit (.bool false)], args := [d1, d2] }
  | _ => none }
def DeviceDownWrongFalsely : Prop := deviceDownRow.holds Try.pinned (OpenSpec.ofChange deviceDownWrong)

/-- 'keelsonlaw15.ImageTells': WHATEVER THE INPUT: true; the input reads as it did. -/
def imageTellsSpec : ChangeSpec := { name := "imageTells", fn := fun _ => fun
  | [d1, d2] => { results := [.lit (.bool true)], args := [d1, d2] }
  | _ => none }
def imageTellsRow : OpenClaim := { program := "ytlnafekmiidpkaa", sum := "6ab266e43959014fba7bf3fc7d701a1871a04aec3d30f3eaf79ef44569b55816", func := "keelson/keelsonlaw15.ImageTells", spec := "imageTells", unfollowed := true, recurses := true, apart := false }
def ImageTellsSaid : Prop := imageTellsRow.holds Try.pinned (OpenSpec.ofChange imageTellsSpec)

/-- ITS FALSE NEIGHBOUR: 'it returns false'. Refute it at one input. -/
def imageTellsWrong : ChangeSpec := { name := "imageTells", fn := fun _ => fun
  | [d1, d2] => { results := [.lit (.bool false)], args := [d1, d2] }
  | _ => none }
def ImageTellsWrongFalsely : Prop := imageTellsRow.holds Try.pinned (OpenSpec.ofChange imageTellsWrong)

/-- 'keelsonlaw15.ImageReads': WHATEVER THE INPUT: true; the input reads as it did. -/
def imageReadsSpec : ChangeSpec := { name := "imageReads", fn := fun _ => fun
  | [d1, d2] => { results := [.lit (.bool true)], args := [d1, d2] }
  | _ => none }
def imageReadsRow : OpenClaim := { program := "ytlnafekmiidpkaa", sum := "6ab266e43959014fba7bf3fc7d701a1871a04aec3d30f3eaf79ef44569b55816", func := "keelson/keelsonlaw15.ImageReads", spec := "imageReads", unfollowed := true, recurses := true, apart := false }
def ImageReadsSaid : Prop := imageReadsRow.holds Try.pinned (OpenSpec.ofChange imageReadsSpec)

/-- ITS FALSE NEIGHBOUR: 'it returns false'. Refute it at one input. -/
def imageReadsWrong : ChangeSpec := { name := "imageReads", fn := fun _ => fun
  | [d1, d2] => { results := [.lit (.bool false)], args := [d1, d2] }
  | _ => none }
def ImageReadsWrongFalsely : Prop := imageReadsRow.holds Try.pinned (OpenSpec.ofChange imageReadsWrong)

/-- 'keelsonlaw07.DeviceNobody': WHATEVER THE INPUT: true; the input reads as it did. -/
def deviceNobodySpec : ChangeSpec := { name := "deviceNobody", fn := fun _ => fun
  | [d] => { results := [.lit (.bool true)], args := [d] }
  | _ => none }
def deviceNobodyRow : OpenClaim := { program := "ytlnafekmiidpkaa", sum := "6ab266e43959014fba7bf3fc7d701a1871a04aec3d30f3eaf79ef44569b55816", func := "keelson/keelsonlaw07.DeviceNobody", spec := "deviceNobody", inPlace := ["maps.clone"], unfollowed := true, recurses := true, apart := false }
def DeviceNobodySaid : Prop := deviceNobodyRow.holds Try.pinned (OpenSpec.ofChange deviceNobodySpec)

/-- ITS FALSE NEIGHBOUR: 'it returns false'. Refute it at one input. -/
def deviceNobodyWrong : ChangeSpec := { name := "deviceNobody", fn := fun _ => fun
  | [d] => { results := [.lit (.bool false)], args := [d] }
  | _ => none }
def DeviceNobodyWrongFalsely : Prop := deviceNobodyRow.holds Try.pinned (OpenSpec.ofChange deviceNobodyWrong)

/-- 'keelsonlaw15.ImagePuts': WHATEVER THE INPUT: true; the input reads as it did. -/
def imagePutsSpec : ChangeSpec := { name := "imagePuts", fn := fun _ => fun
  | [d1, d2, d3, d4] => { results := [.lit (.bool true)], args := [d1, d2, d3, d4] }
  | _ => none }
def imagePutsRow : OpenClaim := { program := "ytlnafekmiidpkaa", sum := "6ab266e43959014fba7bf3fc7d701a1871a04aec3d30f3eaf79ef44569b55816", func := "keelson/keelsonlaw15.ImagePuts", spec := "imagePuts", unfollowed := true, recurses := true, apart := false }
def ImagePutsSaid : Prop := imagePutsRow.holds Try.pinned (OpenSpec.ofChange imagePutsSpec)

/-- ITS FALSE NEIGHBOUR: 'it returns false'. Refute it at one input. -/
def imagePutsWrong : ChangeSpec := { name := "imagePuts", fn := fun _ => fun
  | [d1, d2, d3, d4] => { results := [.lit (.bool false)], args := [d1, d2, d3, d4] }
  | _ => none }
def ImagePutsWrongFalsely : Prop := imagePutsRow.holds Try.pinned (OpenSpec.ofChange imagePutsWrong)

/- THE SECOND FORM. 'bulk': how many values and letters a reading holds, each counted each time it is reached (what is shared counts as often as it is met; a slice's spare places count too). A statement '..UptoSaid' is the law's where the arguments, and the package variables that the reading takes, are together of bulk at most 1048576: NARROWER than '..Said'. Prove '..Said' where nothing that the law and all that it calls make is longer than what came in: it says more and counts as full. Else prove '..UptoSaid'. A law counts once. -/
mutual
def uptoBulk {H : Type} : DataW H → Nat
  | .lit (.string bytes) => bytes.length + 1
  | .lit _ => 1
  | .nil => 1
  | .ptr d => uptoBulk d + 1
  | .slice elems spare => uptoBulkAll elems + uptoBulkAll spare + 1
  | .agg parts => uptoBulkAll parts + 1
  | .iface _ d => uptoBulk d + 1
  | .map entries => uptoBulkEntries entries + 1
  | .held _ => 1
def uptoBulkAll {H : Type} : List (DataW H) → Nat
  | [] => 0
  | d :: r => uptoBulk d + uptoBulkAll r
def uptoBulkEntries {H : Type} : List (Lit × DataW H) → Nat
  | [] => 0
  | x :: r => uptoBulkEntry x + uptoBulkEntries r
def uptoBulkEntry {H : Type} : Lit × DataW H → Nat
  | (.string bytes, d) => bytes.length + uptoBulk d + 1
  | (_, d) => uptoBulk d + 1
 end
def uptoSmall : (H : Type) → List (DataW H) → Bool := fun _ ds => decide (uptoBulkAll ds ≤ 1048576)
def OpenSpec.upto (s : _root_.Go.ChangeSpec) : _root_.Go.OpenSpec := { _root_.Go.OpenSpec.ofChange s with cond := some uptoSmall }

/-- 'keelsonlaw07.DeviceFirm', WHERE WHAT IT READS IS OF BULK AT MOST 1048576: true; the input reads as it did. -/
def deviceFirmUptoRow : OpenClaim := { program := "ytlnafekmiidpkaa", sum := "6ab266e43959014fba7bf3fc7d701a1871a04aec3d30f3eaf79ef44569b55816", func := "keelson/keelsonlaw07.DeviceFirm", spec := "deviceFirm", unfollowed := true, recurses := true, apart := false, narrowed := true }
def DeviceFirmUptoSaid : Prop := deviceFirmUptoRow.holds Try.pinned (OpenSpec.upto deviceFirmSpec)

/-- 'keelsonlaw07.DeviceTorn', WHERE WHAT IT READS IS OF BULK AT MOST 1048576: true; the input reads as it did. -/
def deviceTornUptoRow : OpenClaim := { program := "ytlnafekmiidpkaa", sum := "6ab266e43959014fba7bf3fc7d701a1871a04aec3d30f3eaf79ef44569b55816", func := "keelson/keelsonlaw07.DeviceTorn", spec := "deviceTorn", unfollowed := true, recurses := true, apart := false, narrowed := true }
def DeviceTornUptoSaid : Prop := deviceTornUptoRow.holds Try.pinned (OpenSpec.upto deviceTornSpec)

/-- 'keelsonlaw07.DeviceDown', WHERE WHAT IT READS IS OF BULK AT MOST 1048576: true; the input reads as it did. -/
def deviceDownUptoRow : OpenClaim := { program := "ytlnafekmiidpkaa", sum := "6ab266e43959014fba7bf3fc7d701a1871a04aec3d30f3eaf79ef44569b55816", func := "keelson/keelsonlaw07.DeviceDown", spec := "deviceDown", inPlace := ["maps.clone"], unfollowed := true, recurses := true, apart := false, narrowed := true }
def DeviceDownUptoSaid : Prop := deviceDownUptoRow.holds Try.pinned (OpenSpec.upto deviceDownSpec)

/-- 'keelsonlaw15.ImageTells', WHERE WHAT IT READS IS OF BULK AT MOST 1048576: true; the input reads as it did. -/
def imageTellsUptoRow : OpenClaim := { program := "ytlnafekmiidpkaa", sum := "6ab266e43959014fba7bf3fc7d701a1871a04aec3d30f3eaf79ef44569b55816", func := "keelson/keelsonlaw15.ImageTells", spec := "imageTells", unfollowed := true, recurses := true, apart := false, narrowed := true }
def ImageTellsUptoSaid : Prop := imageTellsUptoRow.holds Try.pinned (OpenSpec.upto imageTellsSpec)

/-- 'keelsonlaw15.ImageReads', WHERE WHAT IT READS IS OF BULK AT MOST 1048576: true; the input reads as it did. -/
def imageReadsUptoRow : OpenClaim := { program := "ytlnafekmiidpkaa", sum := "6ab266e43959014fba7bf3fc7d701a1871a04aec3d30f3eaf79ef44569b55816", func := "keelson/keelsonlaw15.ImageReads", spec := "imageReads", unfollowed := true, recurses := true, apart := false, narrowed := true }
def ImageReadsUptoSaid : Prop := imageReadsUptoRow.holds Try.pinned (OpenSpec.upto imageReadsSpec)

/-- 'keelsonlaw07.DeviceNobody', WHERE WHAT IT READS IS OF BULK AT MOST 1048576: true; the input reads as it did. -/
def deviceNobodyUptoRow : OpenClaim := { program := "ytlnafekmiidpkaa", sum := "6ab266e43959014fba7bf3fc7d701a1871a04aec3d30f3eaf79ef44569b55816", func := "keelson/keelsonlaw07.DeviceNobody", spec := "deviceNobody", inPlace := ["maps.clone"], unfollowed := true, recurses := true, apart := false, narrowed := true }
def DeviceNobodyUptoSaid : Prop := deviceNobodyUptoRow.holds Try.pinned (OpenSpec.upto deviceNobodySpec)

/-- 'keelsonlaw15.ImagePuts', WHERE WHAT IT READS IS OF BULK AT MOST 1048576: true; the input reads as it did. -/
def imagePutsUptoRow : OpenClaim := { program := "ytlnafekmiidpkaa", sum := "6ab266e43959014fba7bf3fc7d701a1871a04aec3d30f3eaf79ef44569b55816", func := "keelson/keelsonlaw15.ImagePuts", spec := "imagePuts", unfollowed := true, recurses := true, apart := false, narrowed := true }
def ImagePutsUptoSaid : Prop := imagePutsUptoRow.holds Try.pinned (OpenSpec.upto imagePutsSpec)

end Rows
end Go.Proofs.Ytlnafekmiidpkaa
