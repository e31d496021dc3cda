/-
  No cell of these rows narrows 'for every input' (looked for: loops, veiled, ifaces, maps, wideKeys, modest, calm, conditions, laid).
  DERIVED. THE GIVEN ROWS OF THIS SEAT. 12 by the template 'for every input the law returns true; each argument reads behind the call as it read before'; 0 by the template 'total and deterministic' (their statements: YtdjmoojonkjafaaGreatTotals.lean).
  GIVEN WITH THE SEED: the statements are not yours to turn. If you find one false, say at which input.
  Laid BY PROGRAM, IN A SANDBOX (cutbox-rows.mjs): the forced cells as the released guide's own fill.sh prints them over the translation a315f5e5be4d8c9a… (all of the seat's roots in one cut). By AI agents, Wed Nov 11 2026. No macro, syntax, notation, axiom, sorry.
-/
import Derived.Test.YtdjmoojonkjafaaGreatChecked
import GoSem.Claim
import GoSem.ClaimJoined
import GoSem.ClaimMapViews
import Derived.JoinedTies
import Derived.KernelRfl
namespace Go.Proofs.YtdjmoojonkjafaaGreat
/- THE CELL 'sum', in the pinned program and in every row, IS THE sha256 OF THE DUMP (.gsa) THAT YtdjmoojonkjafaaGreatProg.lean LOADS. Nothing in Lean hashes anything: it is a label: what it is worth is what the hold of that sum in a sandbox is worth. -/
noncomputable def Tryz.pinned : Pinned := { name := "ytdjmoojonkjafaagreat", sum := "a315f5e5be4d8c9acb51c05cc756a56ee8f6d6b0b26f40da407a5d83eea9fcbc", checked := Tryz.checked }
namespace Rows
def none {H : Type} : Left H := { results := [], args := [] }

/-- 'incunablelaw20.ManyOrders': WHATEVER THE INPUT: true; the input reads as it did. -/
def manyOrdersSpec : ChangeSpec := { name := "manyOrders", fn := fun _ => fun
  | [d1, d2, d3] => { results := [.lit (.bool true)], args := [d1, d2, d3] }
  | _ => none }
def manyOrdersRow : OpenClaim := { program := "ytdjmoojonkjafaagreat", sum := "a315f5e5be4d8c9acb51c05cc756a56ee8f6d6b0b26f40da407a5d83eea9fcbc", func := "incunable/incunablelaw20.ManyOrders", spec := "manyOrders", unfollowed := true, recurses := true, plainKeys := false, apart := false }
def ManyOrdersSaid : Prop := manyOrdersRow.holds Tryz.pinned (OpenSpec.ofChange manyOrdersSpec)

/-- ITS FALSE NEIGHBOUR: 'it returns false'. Refute it at one input. -/
def manyOrdersWrong : ChangeSpec := { name := "manyOrders", fn := fun _ => fun
  | [d1, d2, d3] => { results := [.lit (.bool false)], args := [d1, d2, d3] }
  | _ => none }
def ManyOrdersWrongFalsely : Prop := manyOrdersRow.holds Tryz.pinned (OpenSpec.ofChange manyOrdersWrong)

/-- 'incunablelaw18.IdentChecks': WHATEVER THE INPUT: true; the input reads as it did. -/
def identChecksSpec : ChangeSpec := { name := "identChecks", fn := fun _ => fun
  | [d1, d2, d3] => { results := [.lit (.bool true)], args := [d1, d2, d3] }
  | _ => none }
def identChecksRow : OpenClaim := { program := "ytdjmoojonkjafaagreat", sum := "a315f5e5be4d8c9acb51c05cc756a56ee8f6d6b0b26f40da407a5d83eea9fcbc", func := "incunable/incunablelaw18.IdentChecks", spec := "identChecks", unfollowed := true, recurses := true, plainKeys := false, apart := false }
def IdentChecksSaid : Prop := identChecksRow.holds Tryz.pinned (OpenSpec.ofChange identChecksSpec)

/-- ITS FALSE NEIGHBOUR: 'it returns false'. Refute it at one input. -/
def identChecksWrong : ChangeSpec := { name := "identChecks", fn := fun _ => fun
  | [d1, d2, d3] => { results := [.lit (.bool false)], args := [d1, d2, d3] }
  | _ => none }
def IdentChecksWrongFalsely : Prop := identChecksRow.holds Tryz.pinned (OpenSpec.ofChange identChecksWrong)

/-- 'incunablelaw19.CommandLegal': WHATEVER THE INPUT: true; the input reads as it did. -/
def commandLegalSpec : ChangeSpec := { name := "commandLegal", fn := fun _ => fun
  | [d1, d2, d3] => { results := [.lit (.bool true)], args := [d1, d2, d3] }
  | _ => none }
def commandLegalRow : OpenClaim := { program := "ytdjmoojonkjafaagreat", sum := "a315f5e5be4d8c9acb51c05cc756a56ee8f6d6b0b26f40da407a5d83eea9fcbc", func := "incunable/incunablelaw19.CommandLegal", spec := "commandLegal", unfollowed := true, recurses := true, plainKeys := false, apart := false }
def CommandLegalSaid : Prop := commandLegalRow.holds Tryz.pinned (OpenSpec.ofChange commandLegalSpec)

/-- ITS FALSE NEIGHBOUR: 'it returns false'. Refute it at one input. -/
def commandLegalWrong : ChangeSpec := { name := "commandLegal", fn := fun _ => fun
  | [d1, d2, d3] => { results := [.lit (.bool false)], args := [d1, d2, d3] }
  | _ => none }
def CommandLegalWrongFalsely : Prop := commandLegalRow.holds Tryz.pinned (OpenSpec.ofChange commandLegalWrong)

/-- 'incunablelaw20.ManyLegal': WHATEVER THE INPUT: true; the input reads as it did. -/
def manyLegalSpec : ChangeSpec := { name := "manyLegal", fn := fun _ => fun
  | [d1, d2, d3] => { results := [.lit (.bool true)], args := [d1, d2, d3] }
  | _ => none }
def manyLegalRow : OpenClaim := { program := "ytdjmoojonkjafaagreat", sum := "a315f5e5be4d8c9acb51c05cc756a56ee8f6d6b0b26f40da407a5d83eea9fcbc", func := "incunable/incunablelaw20.ManyLegal", spec := "manyLegal", unfollowed := true, recurses := true, plainKeys := false, apart := false }
def ManyLegalSaid : Prop := manyLegalRow.holds Tryz.pinned (OpenSpec.ofChange manyLegalSpec)

/-- ITS FALSE NEIGHBOUR: 'it returns false'. Refute it at one input. -/
def manyLegalWrong : ChangeSpec := { name := "manyLegal", fn := fun _ => fun
  | [d1, d2, d3] => { results := [.lit (.bool false)], args := [d1, d2, d3] }
  | _ => none }
def ManyLegalWrongFalsely : Prop := manyLegalRow.holds Tryz.pinned (OpenSpec.ofChange manyLegalWrong)

/-- 'incunablelaw39.HealthFits': WHATEVER THE INPUT: true; the input reads as it did. -/
def healthFitsSpec : ChangeSpec := { name := "healthFits", fn := fun _ => fun
  | [d1, d2, d3] => { results := [.lit (.bool true)], args := [d1, d2, d3] }
  | _ => none }
def healthFitsRow : OpenClaim := { program := "ytdjmoojonkjafaagreat", sum := "a315f5e5be4d8c9acb51c05cc756a56ee8f6d6b0b26f40da407a5d83eea9fcbc", func := "incunable/incunablelaw39.HealthFits", spec := "healthFits", unfollowed := true, recurses := true, plainKeys := false, apart := false }
def HealthFitsSaid : Prop := healthFitsRow.holds Tryz.pinned (OpenSpec.ofChange healthFitsSpec)

/-- ITS FALSE NEIGHBOUR: 'it returns false'. Refute it at one input. -/
def healthFitsWrong : ChangeSpec := { name := "healthFits", fn := fun _ => fun
  | [d1, d2, d3] => { results := [.lit (.bool false)], args := [d1, d2, d3] }
  | _ => none }
def HealthFitsWrongFalsely : Prop := healthFitsRow.holds Tryz.pinned (OpenSpec.ofChange healthFitsWrong)

/-- 'incunablelaw21.ReaderReads': WHATEVER THE INPUT: true; the input reads as it did. -/
def readerReadsSpec : ChangeSpec := { name := "readerReads", fn := fun _ => fun
  | [d1, d2, d3] => { results := [.lit (.bool true)], args := [d1, d2, d3] }
  | _ => none }
def readerReadsRow : OpenClaim := { program := "ytdjmoojonkjafaagreat", sum := "a315f5e5be4d8c9acb51c05cc756a56ee8f6d6b0b26f40da407a5d83eea9fcbc", func := "incunable/incunablelaw21.ReaderReads", spec := "readerReads", unfollowed := true, recurses := true, plainKeys := false, apart := false }
def ReaderReadsSaid : Prop := readerReadsRow.holds Tryz.pinned (OpenSpec.ofChange readerReadsSpec)

/-- ITS FALSE NEIGHBOUR: 'it returns false'. Refute it at one input. -/
def readerReadsWrong : ChangeSpec := { name := "readerReads", fn := fun _ => fun
  | [d1, d2, d3] => { results := [.lit (.bool false)], args := [d1, d2, d3] }
  | _ => none }
def ReaderReadsWrongFalsely : Prop := readerReadsRow.holds Tryz.pinned (OpenSpec.ofChange readerReadsWrong)

/-- 'incunablelaw39.HealthReads': WHATEVER THE INPUT: true; the input reads as it did. -/
def healthReadsSpec : ChangeSpec := { name := "healthReads", fn := fun _ => fun
  | [d1, d2, d3] => { results := [.lit (.bool true)], args := [d1, d2, d3] }
  | _ => none }
def healthReadsRow : OpenClaim := { program := "ytdjmoojonkjafaagreat", sum := "a315f5e5be4d8c9acb51c05cc756a56ee8f6d6b0b26f40da407a5d83eea9fcbc", func := "incunable/incunablelaw39.HealthReads", spec := "healthReads", unfollowed := true, recurses := true, plainKeys := false, apart := false }
def HealthReadsSaid : Prop := healthReadsRow.holds Tryz.pinned (OpenSpec.ofChange healthReadsSpec)

/-- ITS FALSE NEIGHBOUR: 'it returns false'. Refute it at one input. -/
def healthReadsWrong : ChangeSpec := { name := "healthReads", fn := fun _ => fun
  | [d1, d2, d3] => { results := [.lit (.bool false)], args := [d1, d2, d3] }
  | _ => none }
def HealthReadsWrongFalsely : Prop := healthReadsRow.holds Tryz.pinned (OpenSpec.ofChange healthReadsWrong)

/-- 'incunablelaw21.ReaderMends': WHATEVER THE INPUT: true; the input reads as it did. -/
def readerMendsSpec : ChangeSpec := { name := "readerMends", fn := fun _ => fun
  | [d1, d2, d3] => { results := [.lit (.bool true)], args := [d1, d2, d3] }
  | _ => none }
def readerMendsRow : OpenClaim := { program := "ytdjmoojonkjafaagreat", sum := "a315f5e5be4d8c9acb51c05cc756a56ee8f6d6b0b26f40da407a5d83eea9fcbc", func := "incunable/incunablelaw21.ReaderMends", spec := "readerMends", unfollowed := true, recurses := true, plainKeys := false, apart := false }
def ReaderMendsSaid : Prop := readerMendsRow.holds Tryz.pinned (OpenSpec.ofChange readerMendsSpec)

/-- ITS FALSE NEIGHBOUR: 'it returns false'. Refute it at one input. -/
def readerMendsWrong : ChangeSpec := { name := "readerMends", fn := fun _ => fun
  | [d1, d2, d3] => { results := [.lit (.bool false)], args := [d1, d2, d3] }
  | _ => none }
def ReaderMendsWrongFalsely : Prop := readerMendsRow.holds Tryz.pinned (OpenSpec.ofChange readerMendsWrong)

/-- 'incunablelaw22.WriterBack': WHATEVER THE INPUT: true; the input reads as it did. -/
def writerBackSpec : ChangeSpec := { name := "writerBack", fn := fun _ => fun
  | [d1, d2, d3] => { results := [.lit (.bool true)], args := [d1, d2, d3] }
  | _ => none }
def writerBackRow : OpenClaim := { program := "ytdjmoojonkjafaagreat", sum := "a315f5e5be4d8c9acb51c05cc756a56ee8f6d6b0b26f40da407a5d83eea9fcbc", func := "incunable/incunablelaw22.WriterBack", spec := "writerBack", unfollowed := true, recurses := true, plainKeys := false, apart := false }
def WriterBackSaid : Prop := writerBackRow.holds Tryz.pinned (OpenSpec.ofChange writerBackSpec)

/-- ITS FALSE NEIGHBOUR: 'it returns false'. Refute it at one input. -/
def writerBackWrong : ChangeSpec := { name := "writerBack", fn := fun _ => fun
  | [d1, d2, d3] => { results := [.lit (.bool false)], args := [d1, d2, d3] }
  | _ => none }
def WriterBackWrongFalsely : Prop := writerBackRow.holds Tryz.pinned (OpenSpec.ofChange writerBackWrong)

/-- 'incunablelaw22.WriterWrites': WHATEVER THE INPUT: true; the input reads as it did. -/
def writerWritesSpec : ChangeSpec := { name := "writerWrites", fn := fun _ => fun
  | [d1, d2, d3] => { results := [.lit (.bool true)], args := [d1, d2, d3] }
  | _ => none }
def writerWritesRow : OpenClaim := { program := "ytdjmoojonkjafaagreat", sum := "a315f5e5be4d8c9acb51c05cc756a56ee8f6d6b0b26f40da407a5d83eea9fcbc", func := "incunable/incunablelaw22.WriterWrites", spec := "writerWrites", unfollowed := true, recurses := true, plainKeys := false, apart := false }
def WriterWritesSaid : Prop := writerWritesRow.holds Tryz.pinned (OpenSpec.ofChange writerWritesSpec)

/-- ITS FALSE NEIGHBOUR: 'it returns false'. Refute it at one input. -/
def writerWritesWrong : ChangeSpec := { name := "writerWrites", fn := fun _ => fun
  | [d1, d2, d3] => { results := [.lit (.bool false)], args := [d1, d2, d3] }
  | _ => none }
def WriterWritesWrongFalsely : Prop := writerWritesRow.holds Tryz.pinned (OpenSpec.ofChange writerWritesWrong)

/-- 'incunablelaw26.KeepBack': WHATEVER THE INPUT: true; the input reads as it did. -/
def keepBackSpec : ChangeSpec := { name := "keepBack", fn := fun _ => fun
  | [d1, d2, d3] => { results := [.lit (.bool true)], args := [d1, d2, d3] }
  | _ => none }
def keepBackRow : OpenClaim := { program := "ytdjmoojonkjafaagreat", sum := "a315f5e5be4d8c9acb51c05cc756a56ee8f6d6b0b26f40da407a5d83eea9fcbc", func := "incunable/incunablelaw26.KeepBack", spec := "keepBack", unfollowed := true, recurses := true, plainKeys := false, apart := false }
def KeepBackSaid : Prop := keepBackRow.holds Tryz.pinned (OpenSpec.ofChange keepBackSpec)

/-- ITS FALSE NEIGHBOUR: 'it returns false'. Refute it at one input. -/
def keepBackWrong : ChangeSpec := { name := "keepBack", fn := fun _ => fun
  | [d1, d2, d3] => { results := [.lit (.bool false)], args := [d1, d2, d3] }
  | _ => none }
def KeepBackWrongFalsely : Prop := keepBackRow.holds Tryz.pinned (OpenSpec.ofChange keepBackWrong)

/-- 'incunablelaw26.KeepSaves': WHATEVER THE INPUT: true; the input reads as it did. -/
def keepSavesSpec : ChangeSpec := { name := "keepSaves", fn := fun _ => fun
  | [d1, d2, d3] => { results := [.lit (.bool true)], args := [d1, d2, d3] }
  | _ => none }
def keepSavesRow : OpenClaim := { program := "ytdjmoojonkjafaagreat", sum := "a315f5e5be4d8c9acb51c05cc756a56ee8f6d6b0b26f40da407a5d83eea9fcbc", func := "incunable/incunablelaw26.KeepSaves", spec := "keepSaves", unfollowed := true, recurses := true, plainKeys := false, apart := false }
def KeepSavesSaid : Prop := keepSavesRow.holds Tryz.pinned (OpenSpec.ofChange keepSavesSpec)

/-- ITS FALSE NEIGHBOUR: 'it returns false'. Refute it at one input. -/
def keepSavesWrong : ChangeSpec := { name := "keepSaves", fn := fun _ => fun
  | [d1, d2, d3] => { results := [.lit (.bool false)], args := [d1, d2, d3] }
  | _ => none }
def KeepSavesWrongFalsely : Prop := keepSavesRow.holds Tryz.pinned (OpenSpec.ofChange keepSavesWrong)

/- THE SECOND FORM. 'bulk': how many values and letters a reading holds, each counted each time it is reached (what is shared counts as often as it is met; a slice's spare places count too). A statement '..UptoSaid' is the law's where the arguments, and the package variables that the reading takes, are together of bulk at most 1048576: NARROWER than '..Said'. Prove '..Said' where nothing that the law and all that it calls make is longer than what came in: it says more and counts as full. Else prove '..UptoSaid'. A law counts once. -/
mutual
def uptoBulk {H : Type} : DataW H → Nat
  | .lit (.string bytes) => bytes.length + 1
  | .lit _ => 1
  | .nil => 1
  | .ptr d => uptoBulk d + 1
  | .slice elems spare => uptoBulkAll elems + uptoBulkAll spare + 1
  | .agg parts => uptoBulkAll parts + 1
  | .iface _ d => uptoBulk d + 1
  | .map entries => uptoBulkEntries entries + 1
  | .held _ => 1
def uptoBulkAll {H : Type} : List (DataW H) → Nat
  | [] => 0
  | d :: r => uptoBulk d + uptoBulkAll r
def uptoBulkEntries {H : Type} : List (Lit × DataW H) → Nat
  | [] => 0
  | x :: r => uptoBulkEntry x + uptoBulkEntries r
def uptoBulkEntry {H : Type} : Lit × DataW H → Nat
  | (.string bytes, d) => bytes.length + uptoBulk d + 1
  | (_, d) => uptoBulk d + 1
 end
def uptoSmall : (H : Type) → List (DataW H) → Bool := fun _ ds => decide (uptoBulkAll ds ≤ 1048576)
def OpenSpec.upto (s : _root_.Go.ChangeSpec) : _root_.Go.OpenSpec := { _root_.Go.OpenSpec.ofChange s with cond := some uptoSmall }

/-- 'incunablelaw20.ManyOrders', WHERE WHAT IT READS IS OF BULK AT MOST 1048576: true; the input reads as it did. -/
def manyOrdersUptoRow : OpenClaim := { program := "ytdjmoojonkjafaagreat", sum := "a315f5e5be4d8c9acb51c05cc756a56ee8f6d6b0b26f40da407a5d83eea9fcbc", func := "incunable/incunablelaw20.ManyOrders", spec := "manyOrders", unfollowed := true, recurses := true, plainKeys := false, apart := false, narrowed := true }
def ManyOrdersUptoSaid : Prop := manyOrdersUptoRow.holds Tryz.pinned (OpenSpec.upto manyOrdersSpec)

/-- 'incunablelaw18.IdentChecks', WHERE WHAT IT READS IS OF BULK AT MOST 1048576: true; the input reads as it did. -/
def identChecksUptoRow : OpenClaim := { program := "ytdjmoojonkjafaagreat", sum := "a315f5e5be4d8c9acb51c05cc756a56ee8f6d6b0b26f40da407a5d83eea9fcbc", func := "incunable/incunablelaw18.IdentChecks", spec := "identChecks", unfollowed := true, recurses := true, plainKeys := false, apart := false, narrowed := true }
def IdentChecksUptoSaid : Prop := identChecksUptoRow.holds Tryz.pinned (OpenSpec.upto identChecksSpec)

/-- 'incunablelaw19.CommandLegal', WHERE WHAT IT READS IS OF BULK AT MOST 1048576: true; the input reads as it did. -/
def commandLegalUptoRow : OpenClaim := { program := "ytdjmoojonkjafaagreat", sum := "a315f5e5be4d8c9acb51c05cc756a56ee8f6d6b0b26f40da407a5d83eea9fcbc", func := "incunable/incunablelaw19.CommandLegal", spec := "commandLegal", unfollowed := true, recurses := true, plainKeys := false, apart := false, narrowed := true }
def CommandLegalUptoSaid : Prop := commandLegalUptoRow.holds Tryz.pinned (OpenSpec.upto commandLegalSpec)

/-- 'incunablelaw20.ManyLegal', WHERE WHAT IT READS IS OF BULK AT MOST 1048576: true; the input reads as it did. -/
def manyLegalUptoRow : OpenClaim := { program := "ytdjmoojonkjafaagreat", sum := "a315f5e5be4d8c9acb51c05cc756a56ee8f6d6b0b26f40da407a5d83eea9fcbc", func := "incunable/incunablelaw20.ManyLegal", spec := "manyLegal", unfollowed := true, recurses := true, plainKeys := false, apart := false, narrowed := true }
def ManyLegalUptoSaid : Prop := manyLegalUptoRow.holds Tryz.pinned (OpenSpec.upto manyLegalSpec)

/-- 'incunablelaw39.HealthFits', WHERE WHAT IT READS IS OF BULK AT MOST 1048576: true; the input reads as it did. -/
def healthFitsUptoRow : OpenClaim := { program := "ytdjmoojonkjafaagreat", sum := "a315f5e5be4d8c9acb51c05cc756a56ee8f6d6b0b26f40da407a5d83eea9fcbc", func := "incunable/incunablelaw39.HealthFits", spec := "healthFits", unfollowed := true, recurses := true, plainKeys := false, apart := false, narrowed := true }
def HealthFitsUptoSaid : Prop := healthFitsUptoRow.holds Tryz.pinned (OpenSpec.upto healthFitsSpec)

/-- 'incunablelaw21.ReaderReads', WHERE WHAT IT READS IS OF BULK AT MOST 1048576: true; the input reads as it did. -/
def readerReadsUptoRow : OpenClaim := { program := "ytdjmoojonkjafaagreat", sum := "a315f5e5be4d8c9acb51c05cc756a56ee8f6d6b0b26f40da407a5d83eea9fcbc", func := "incunable/incunablelaw21.ReaderReads", spec := "readerReads", unfollowed := true, recurses := true, plainKeys := false, apart := false, narrowed := true }
def ReaderReadsUptoSaid : Prop := readerReadsUptoRow.holds Tryz.pinned (OpenSpec.upto readerReadsSpec)

/-- 'incunablelaw39.HealthReads', WHERE WHAT IT READS IS OF BULK AT MOST 1048576: true; the input reads as it did. -/
def healthReadsUptoRow : OpenClaim := { program := "ytdjmoojonkjafaagreat", sum := "a315f5e5be4d8c9acb51c05cc756a56ee8f6d6b0b26f40da407a5d83eea9fcbc", func := "incunable/incunablelaw39.HealthReads", spec := "healthReads", unfollowed := true, recurses := true, plainKeys := false, apart := false, narrowed := true }
def HealthReadsUptoSaid : Prop := healthReadsUptoRow.holds Tryz.pinned (OpenSpec.upto healthReadsSpec)

/-- 'incunablelaw21.ReaderMends', WHERE WHAT IT READS IS OF BULK AT MOST 1048576: true; the input reads as it did. -/
def readerMendsUptoRow : OpenClaim := { program := "ytdjmoojonkjafaagreat", sum := "a315f5e5be4d8c9acb51c05cc756a56ee8f6d6b0b26f40da407a5d83eea9fcbc", func := "incunable/incunablelaw21.ReaderMends", spec := "readerMends", unfollowed := true, recurses := true, plainKeys := false, apart := false, narrowed := true }
def ReaderMendsUptoSaid : Prop := readerMendsUptoRow.holds Tryz.pinned (OpenSpec.upto readerMendsSpec)

/-- 'incunablelaw22.WriterBack', WHERE WHAT IT READS IS OF BULK AT MOST 1048576: true; the input reads as it did. -/
def writerBackUptoRow : OpenClaim := { program := "ytdjmoojonkjafaagreat", sum := "a315f5e5be4d8c9acb51c05cc756a56ee8f6d6b0b26f40da407a5d83eea9fcbc", func := "incunable/incunablelaw22.WriterBack", spec := "writerBack", unfollowed := true, recurses := true, plainKeys := false, apart := false, narrowed := true }
def WriterBackUptoSaid : Prop := writerBackUptoRow.holds Tryz.pinned (OpenSpec.upto writerBackSpec)

/-- 'incunablelaw22.WriterWrites', WHERE WHAT IT READS IS OF BULK AT MOST 1048576: true; the input reads as it did. -/
def writerWritesUptoRow : OpenClaim := { program := "ytdjmoojonkjafaagreat", sum := "a315f5e5be4d8c9acb51c05cc756a56ee8f6d6b0b26f40da407a5d83eea9fcbc", func := "incunable/incunablelaw22.WriterWrites", spec := "writerWrites", unfollowed := true, recurses := true, plainKeys := false, apart := false, narrowed := true }
def WriterWritesUptoSaid : Prop := writerWritesUptoRow.holds Tryz.pinned (OpenSpec.upto writerWritesSpec)

/-- 'incunablelaw26.KeepBack', WHERE WHAT IT READS IS OF BULK AT MOST 1048576: true; the input reads as it did. -/
def keepBackUptoRow : OpenClaim := { program := "ytdjmoojonkjafaagreat", sum := "a315f5e5be4d8c9acb51c05cc756a56ee8f6d6b0b26f40da407a5d83eea9fcbc", func := "incunable/incunablelaw26.KeepBack", spec := "keepBack", unfollowed := true, recurses := true, plainKeys := false, apart := false, narrowed := true }
def KeepBackUptoSaid : Prop := keepBackUptoRow.holds Tryz.pinned (OpenSpec.upto keepBackSpec)

/-- 'incunablelaw26.KeepSaves', WHERE WHAT IT READS IS OF BULK AT MOST 1048576: true; the input reads as it did. -/
def keepSavesUptoRow : OpenClaim := { program := "ytdjmoojonkjafaagreat", sum := "a315f5e5be4d8c9acb51c05cc756a56ee8f6d6b0b26f40da407a5d83eea9fcbc", func := "incunable/incunablelaw26.KeepSaves", spec := "keepSaves", unfollowed := true, recurses := true, plainKeys := false, apart := false, narrowed := true }
def KeepSavesUptoSaid : Prop := keepSavesUptoRow.holds Tryz.pinned (OpenSpec.upto keepSavesSpec)

end Rows
end Go.Proofs.YtdjmoojonkjafaaGreat
