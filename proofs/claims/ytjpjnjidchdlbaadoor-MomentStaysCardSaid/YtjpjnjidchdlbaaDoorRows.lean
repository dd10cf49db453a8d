/-
  NARROWER THAN 'FOR EVERY INPUT', by the rows' own cells (each row's printed sentence says how): CrcTells: laid · CrcBurst: laid · CrcParts: laid · CrcApart: laid · MomentTells: laid · MomentStays: laid · MomentTurned: laid · MomentMoved: laid · MomentLost: laid.
  DERIVED. THE GIVEN ROWS OF THIS SEAT. 9 by the template 'for every input the law returns true; each argument reads behind the call as it read before'; 0 by the template 'total and deterministic' (their statements: YtjpjnjidchdlbaaDoorTotals.lean).
  GIVEN WITH THE SEED: the statements are not yours to turn. If you find one false, say at which input.
  Laid BY PROGRAM, IN A SANDBOX (cutbox-rows.mjs): the forced cells as the released guide's own fill.sh prints them over the translation 07fa223e8190861e… (all of the seat's roots in one cut). By AI agents, Wed Nov 11 2026. No macro, syntax, notation, axiom, sorry.
-/
import Derived.Test.YtjpjnjidchdlbaaDoorChecked
import GoSem.Claim
import GoSem.ClaimJoined
import GoSem.ClaimMapViews
import Derived.JoinedTies
import Derived.KernelRfl
namespace Go.Proofs.YtjpjnjidchdlbaaDoor
/- THE CELL 'sum', in the pinned program and in every row, IS THE sha256 OF THE DUMP (.gsa) THAT YtjpjnjidchdlbaaDoorProg.lean LOADS. Nothing in Lean hashes anything: it is a label: what it is worth is what the hold of that sum in a sandbox is worth. -/
noncomputable def Tryd.pinned : Pinned := { name := "ytjpjnjidchdlbaadoor", sum := "07fa223e8190861e2f1e3a5f0085a5ec974d17179103149f4f1815ba729e8d1a", checked := Tryd.checked }
namespace Rows
def none {H : Type} : Left H := { results := [], args := [] }

/- WHAT THE LISTED PACKAGE-LEVEL VARIABLES READ AS WHEN THE CALL BEGINS. Each datum BY PROGRAM (the guide's laid-datum.mjs) off the statement by which the dump's own 'gosem.cut.vars' lays the variable. In a bare row this is a premise. The card (YtjpjnjidchdlbaaDoorCards.lean) ties it to the program's text. -/
def laid_gyre_crc_steps {H : Type} : DataW H := .agg [.lit (.int .u32 0), .lit (.int .u32 79764919), .lit (.int .u32 159529838), .lit (.int .u32 222504665), .lit (.int .u32 319059676), .lit (.int .u32 398814059), .lit (.int .u32 445009330), .lit (.int .u32 507990021), .lit (.int .u32 638119352), .lit (.int .u32 583659535), .lit (.int .u32 797628118), .lit (.int .u32 726387553), .lit (.int .u32 890018660), .lit (.int .u32 835552979), .lit (.int .u32 1015980042), .lit (.int .u32 944750013)]
def laid_gyre_conf_names {H : Type} : DataW H := .agg [.lit (.string [98, 111, 100, 105, 101, 115]), .lit (.string [109, 97, 115, 115]), .lit (.string [99, 111, 110, 115, 116, 97, 110, 116]), .lit (.string [98, 111, 120]), .lit (.string [116, 111, 112]), .lit (.string [110, 101, 97, 114]), .lit (.string [109, 101, 116, 104, 111, 100])]

/-- 'gyrelaw25.CrcTells': WHATEVER THE INPUT: true; the input reads as it did. -/
def crcTellsSpec : ChangeSpec := { name := "crcTells", fn := fun _ => fun
  | [d1, d2, d3] => { results := [.lit (.bool true)], args := [d1, d2, d3] }
  | _ => none }
def crcTellsRow : OpenClaim := { program := "ytjpjnjidchdlbaadoor", sum := "07fa223e8190861e2f1e3a5f0085a5ec974d17179103149f4f1815ba729e8d1a", func := "gyre/gyrelaw25.CrcTells", spec := "crcTells", unfollowed := true, recurses := true, named := ["gyre/crc.steps"], apart := false, laid := [("gyre/crc.steps", laid_gyre_crc_steps)] }
def CrcTellsSaid : Prop := crcTellsRow.holds Tryd.pinned (OpenSpec.ofChange crcTellsSpec)

/-- ITS FALSE NEIGHBOUR: 'it returns false'. Refute it at one input. -/
def crcTellsWrong : ChangeSpec := { name := "crcTells", fn := fun _ => fun
  | [d1, d2, d3] => { results := [.lit (.bool false)], args := [d1, d2, d3] }
  | _ => none }
def CrcTellsWrongFalsely : Prop := crcTellsRow.holds Tryd.pinned (OpenSpec.ofChange crcTellsWrong)

/-- 'gyrelaw25.CrcBurst': WHATEVER THE INPUT: true; the input reads as it did. -/
def crcBurstSpec : ChangeSpec := { name := "crcBurst", fn := fun _ => fun
  | [d1, d2, d3] => { results := [.lit (.bool true)], args := [d1, d2, d3] }
  | _ => none }
def crcBurstRow : OpenClaim := { program := "ytjpjnjidchdlbaadoor", sum := "07fa223e8190861e2f1e3a5f0085a5ec974d17179103149f4f1815ba729e8d1a", func := "gyre/gyrelaw25.CrcBurst", spec := "crcBurst", unfollowed := true, recurses := true, named := ["gyre/crc.steps"], apart := false, laid := [("gyre/crc.steps", laid_gyre_crc_steps)] }
def CrcBurstSaid : Prop := crcBurstRow.holds Tryd.pinned (OpenSpec.ofChange crcBurstSpec)

/-- ITS FALSE NEIGHBOUR: 'it returns false'. Refute it at one input. -/
def crcBurstWrong : ChangeSpec := { name := "crcBurst", fn := fun _ => fun
  | [d1, d2, d3] => { results := [.lit (.bool false)], args := [d1, d2, d3] }
  | _ => none }
def CrcBurstWrongFalsely : Prop := crcBurstRow.holds Tryd.pinned (OpenSpec.ofChange crcBurstWrong)

/-- 'gyrelaw25.CrcParts': WHATEVER THE INPUT: true; the input reads as it did. -/
def crcPartsSpec : ChangeSpec := { name := "crcParts", fn := fun _ => fun
  | [d1, d2, d3, d4, d5] => { results := [.lit (.bool true)], args := [d1, d2, d3, d4, d5] }
  | _ => none }
def crcPartsRow : OpenClaim := { program := "ytjpjnjidchdlbaadoor", sum := "07fa223e8190861e2f1e3a5f0085a5ec974d17179103149f4f1815ba729e8d1a", func := "gyre/gyrelaw25.CrcParts", spec := "crcParts", unfollowed := true, recurses := true, named := ["gyre/crc.steps"], apart := false, laid := [("gyre/crc.steps", laid_gyre_crc_steps)] }
def CrcPartsSaid : Prop := crcPartsRow.holds Tryd.pinned (OpenSpec.ofChange crcPartsSpec)

/-- ITS FALSE NEIGHBOUR: 'it returns false'. Refute it at one input. -/
def crcPartsWrong : ChangeSpec := { name := "crcParts", fn := fun _ => fun
  | [d1, d2, d3, d4, d5] => { results := [.lit (.bool false)], args := [d1, d2, d3, d4, d5] }
  | _ => none }
def CrcPartsWrongFalsely : Prop := crcPartsRow.holds Tryd.pinned (OpenSpec.ofChange crcPartsWrong)

/-- 'gyrelaw25.CrcApart': WHATEVER THE INPUT: true; the input reads as it did. -/
def crcApartSpec : ChangeSpec := { name := "crcApart", fn := fun _ => fun
  | [d1, d2, d3, d4] => { results := [.lit (.bool true)], args := [d1, d2, d3, d4] }
  | _ => none }
def crcApartRow : OpenClaim := { program := "ytjpjnjidchdlbaadoor", sum := "07fa223e8190861e2f1e3a5f0085a5ec974d17179103149f4f1815ba729e8d1a", func := "gyre/gyrelaw25.CrcApart", spec := "crcApart", unfollowed := true, recurses := true, named := ["gyre/crc.steps"], apart := false, laid := [("gyre/crc.steps", laid_gyre_crc_steps)] }
def CrcApartSaid : Prop := crcApartRow.holds Tryd.pinned (OpenSpec.ofChange crcApartSpec)

/-- ITS FALSE NEIGHBOUR: 'it returns false'. Refute it at one input. -/
def crcApartWrong : ChangeSpec := { name := "crcApart", fn := fun _ => fun
  | [d1, d2, d3, d4] => { results := [.lit (.bool false)], args := [d1, d2, d3, d4] }
  | _ => none }
def CrcApartWrongFalsely : Prop := crcApartRow.holds Tryd.pinned (OpenSpec.ofChange crcApartWrong)

/-- 'gyrelaw23.MomentTells': WHATEVER THE INPUT: true; the input reads as it did. -/
def momentTellsSpec : ChangeSpec := { name := "momentTells", fn := fun _ => fun
  | [d1, d2, d3, d4] => { results := [.lit (.bool true)], args := [d1, d2, d3, d4] }
  | _ => none }
def momentTellsRow : OpenClaim := { program := "ytjpjnjidchdlbaadoor", sum := "07fa223e8190861e2f1e3a5f0085a5ec974d17179103149f4f1815ba729e8d1a", func := "gyre/gyrelaw23.MomentTells", spec := "momentTells", unfollowed := true, recurses := true, named := ["gyre/conf.names"], apart := false, laid := [("gyre/conf.names", laid_gyre_conf_names)] }
def MomentTellsSaid : Prop := momentTellsRow.holds Tryd.pinned (OpenSpec.ofChange momentTellsSpec)

/-- ITS FALSE NEIGHBOUR: 'it returns false'. Refute it at one input. -/
def momentTellsWrong : ChangeSpec := { name := "momentTells", fn := fun _ => fun
  | [d1, d2, d3, d4] => { results := [.lit (.bool false)], args := [d1, d2, d3, d4] }
  | _ => none }
def MomentTellsWrongFalsely : Prop := momentTellsRow.holds Tryd.pinned (OpenSpec.ofChange momentTellsWrong)

/-- 'gyrelaw23.MomentStays': WHATEVER THE INPUT: true; the input reads as it did. -/
def momentStaysSpec : ChangeSpec := { name := "momentStays", fn := fun _ => fun
  | [d1, d2, d3, d4] => { results := [.lit (.bool true)], args := [d1, d2, d3, d4] }
  | _ => none }
def momentStaysRow : OpenClaim := { program := "ytjpjnjidchdlbaadoor", sum := "07fa223e8190861e2f1e3a5f0085a5ec974d17179103149f4f1815ba729e8d1a", func := "gyre/gyrelaw23.MomentStays", spec := "momentStays", unfollowed := true, recurses := true, named := ["gyre/conf.names"], apart := false, laid := [("gyre/conf.names", laid_gyre_conf_names)] }
def MomentStaysSaid : Prop := momentStaysRow.holds Tryd.pinned (OpenSpec.ofChange momentStaysSpec)

/-- ITS FALSE NEIGHBOUR: 'it returns false'. Refute it at one input. -/
def momentStaysWrong : ChangeSpec := { name := "momentStays", fn := fun _ => fun
  | [d1, d2, d3, d4] => { results := [.lit (.bool false)], args := [d1, d2, d3, d4] }
  | _ => none }
def MomentStaysWrongFalsely : Prop := momentStaysRow.holds Tryd.pinned (OpenSpec.ofChange momentStaysWrong)

/-- 'gyrelaw23.MomentTurned': WHATEVER THE INPUT: true; the input reads as it did. -/
def momentTurnedSpec : ChangeSpec := { name := "momentTurned", fn := fun _ => fun
  | [d1, d2] => { results := [.lit (.bool true)], args := [d1, d2] }
  | _ => none }
def momentTurnedRow : OpenClaim := { program := "ytjpjnjidchdlbaadoor", sum := "07fa223e8190861e2f1e3a5f0085a5ec974d17179103149f4f1815ba729e8d1a", func := "gyre/gyrelaw23.MomentTurned", spec := "momentTurned", unfollowed := true, recurses := true, named := ["gyre/conf.names"], apart := false, laid := [("gyre/conf.names", laid_gyre_conf_names)] }
def MomentTurnedSaid : Prop := momentTurnedRow.holds Tryd.pinned (OpenSpec.ofChange momentTurnedSpec)

/-- ITS FALSE NEIGHBOUR: 'it returns false'. Refute it at one input. -/
def momentTurnedWrong : ChangeSpec := { name := "momentTurned", fn := fun _ => fun
  | [d1, d2] => { results := [.lit (.bool false)], args := [d1, d2] }
  | _ => none }
def MomentTurnedWrongFalsely : Prop := momentTurnedRow.holds Tryd.pinned (OpenSpec.ofChange momentTurnedWrong)

/-- 'gyrelaw23.MomentMoved': WHATEVER THE INPUT: true; the input reads as it did. -/
def momentMovedSpec : ChangeSpec := { name := "momentMoved", fn := fun _ => fun
  | [d1, d2, d3] => { results := [.lit (.bool true)], args := [d1, d2, d3] }
  | _ => none }
def momentMovedRow : OpenClaim := { program := "ytjpjnjidchdlbaadoor", sum := "07fa223e8190861e2f1e3a5f0085a5ec974d17179103149f4f1815ba729e8d1a", func := "gyre/gyrelaw23.MomentMoved", spec := "momentMoved", unfollowed := true, recurses := true, named := ["gyre/conf.names"], apart := false, laid := [("gyre/conf.names", laid_gyre_conf_names)] }
def MomentMovedSaid : Prop := momentMovedRow.holds Tryd.pinned (OpenSpec.ofChange momentMovedSpec)

/-- ITS FALSE NEIGHBOUR: 'it returns false'. Refute it at one input. -/
def momentMovedWrong : ChangeSpec := { name := "momentMoved", fn := fun _ => fun
  | [d1, d2, d3] => { results := [.lit (.bool false)], args := [d1, d2, d3] }
  | _ => none }
def MomentMovedWrongFalsely : Prop := momentMovedRow.holds Tryd.pinned (OpenSpec.ofChange momentMovedWrong)

/-- 'gyrelaw23.MomentLost': WHATEVER THE INPUT: true; the input reads as it did. -/
def momentLostSpec : ChangeSpec := { name := "momentLost", fn := fun _ => fun
  | [d1, d2, d3, d4] => { results := [.lit (.bool true)], args := [d1, d2, d3, d4] }
  | _ => none }
def momentLostRow : OpenClaim := { program := "ytjpjnjidchdlbaadoor", sum := "07fa223e8190861e2f1e3a5f0085a5ec974d17179103149f4f1815ba729e8d1a", func := "gyre/gyrelaw23.MomentLost", spec := "momentLost", unfollowed := true, recurses := true, named := ["gyre/conf.names"], apart := false, laid := [("gyre/conf.names", laid_gyre_conf_names)] }
def MomentLostSaid : Prop := momentLostRow.holds Tryd.pinned (OpenSpec.ofChange momentLostSpec)

/-- ITS FALSE NEIGHBOUR: 'it returns false'. Refute it at one input. -/
def momentLostWrong : ChangeSpec := { name := "momentLost", fn := fun _ => fun
  | [d1, d2, d3, d4] => { results := [.lit (.bool false)], args := [d1, d2, d3, d4] }
  | _ => none }
def MomentLostWrongFalsely : Prop := momentLostRow.holds Tryd.pinned (OpenSpec.ofChange momentLostWrong)

/- THE SECOND FORM. 'bulk': how many values and letters a reading holds, each counted each time it is reached (what is shared counts as often as it is met; a slice's spare places count too). A statement '..UptoSaid' is the law's where the arguments, and the package variables that the reading takes, are together of bulk at most 1048576: NARROWER than '..Said'. Prove '..Said' where nothing that the law and all that it calls make is longer than what came in: it says more and counts as full. Else prove '..UptoSaid'. A law counts once. -/
mutual
def uptoBulk {H : Type} : DataW H → Nat
  | .lit (.string bytes) => bytes.length + 1
  | .lit _ => 1
  | .nil => 1
  | .ptr d => uptoBulk d + 1
  | .slice elems spare => uptoBulkAll elems + uptoBulkAll spare + 1
  | .agg parts => uptoBulkAll parts + 1
  | .iface _ d => uptoBulk d + 1
  | .map entries => uptoBulkEntries entries + 1
  | .held _ => 1
def uptoBulkAll {H : Type} : List (DataW H) → Nat
  | [] => 0
  | d :: r => uptoBulk d + uptoBulkAll r
def uptoBulkEntries {H : Type} : List (Lit × DataW H) → Nat
  | [] => 0
  | x :: r => uptoBulkEntry x + uptoBulkEntries r
def uptoBulkEntry {H : Type} : Lit × DataW H → Nat
  | (.string bytes, d) => bytes.length + uptoBulk d + 1
  | (_, d) => uptoBulk d + 1
 end
def uptoSmall : (H : Type) → List (DataW H) → Bool := fun _ ds => decide (uptoBulkAll ds ≤ 1048576)
def OpenSpec.upto (s : _root_.Go.ChangeSpec) : _root_.Go.OpenSpec := { _root_.Go.OpenSpec.ofChange s with cond := some uptoSmall }

/-- 'gyrelaw25.CrcTells', WHERE WHAT IT READS IS OF BULK AT MOST 1048576: true; the input reads as it did. -/
def crcTellsUptoRow : OpenClaim := { program := "ytjpjnjidchdlbaadoor", sum := "07fa223e8190861e2f1e3a5f0085a5ec974d17179103149f4f1815ba729e8d1a", func := "gyre/gyrelaw25.CrcTells", spec := "crcTells", unfollowed := true, recurses := true, named := ["gyre/crc.steps"], apart := false, laid := [("gyre/crc.steps", laid_gyre_crc_steps)], narrowed := true }
def CrcTellsUptoSaid : Prop := crcTellsUptoRow.holds Tryd.pinned (OpenSpec.upto crcTellsSpec)

/-- 'gyrelaw25.CrcBurst', WHERE WHAT IT READS IS OF BULK AT MOST 1048576: true; the input reads as it did. -/
def crcBurstUptoRow : OpenClaim := { program := "ytjpjnjidchdlbaadoor", sum := "07fa223e8190861e2f1e3a5f0085a5ec974d17179103149f4f1815ba729e8d1a", func := "gyre/gyrelaw25.CrcBurst", spec := "crcBurst", unfollowed := true, recurses := true, named := ["gyre/crc.steps"], apart := false, laid := [("gyre/crc.steps", laid_gyre_crc_steps)], narrowed := true }
def CrcBurstUptoSaid : Prop := crcBurstUptoRow.holds Tryd.pinned (OpenSpec.upto crcBurstSpec)

/-- 'gyrelaw25.CrcParts', WHERE WHAT IT READS IS OF BULK AT MOST 1048576: true; the input reads as it did. -/
def crcPartsUptoRow : OpenClaim := { program := "ytjpjnjidchdlbaadoor", sum := "07fa223e8190861e2f1e3a5f0085a5ec974d17179103149f4f1815ba729e8d1a", func := "gyre/gyrelaw25.CrcParts", spec := "crcParts", unfollowed := true, recurses := true, named := ["gyre/crc.steps"], apart := false, laid := [("gyre/crc.steps", laid_gyre_crc_steps)], narrowed := true }
def CrcPartsUptoSaid : Prop := crcPartsUptoRow.holds Tryd.pinned (OpenSpec.upto crcPartsSpec)

/-- 'gyrelaw25.CrcApart', WHERE WHAT IT READS IS OF BULK AT MOST 1048576: true; the input reads as it did. -/
def crcApartUptoRow : OpenClaim := { program := "ytjpjnjidchdlbaadoor", sum := "07fa223e8190861e2f1e3a5f0085a5ec974d17179103149f4f1815ba729e8d1a", func := "gyre/gyrelaw25.CrcApart", spec := "crcApart", unfollowed := true, recurses := true, named := ["gyre/crc.steps"], apart := false, laid := [("gyre/crc.steps", laid_gyre_crc_steps)], narrowed := true }
def CrcApartUptoSaid : Prop := crcApartUptoRow.holds Tryd.pinned (OpenSpec.upto crcApartSpec)

/-- 'gyrelaw23.MomentTells', WHERE WHAT IT READS IS OF BULK AT MOST 1048576: true; the input reads as it did. -/
def momentTellsUptoRow : OpenClaim := { program := "ytjpjnjidchdlbaadoor", sum := "07fa223e8190861e2f1e3a5f0085a5ec974d17179103149f4f1815ba729e8d1a", func := "gyre/gyrelaw23.MomentTells", spec := "momentTells", unfollowed := true, recurses := true, named := ["gyre/conf.names"], apart := false, laid := [("gyre/conf.names", laid_gyre_conf_names)], narrowed := true }
def MomentTellsUptoSaid : Prop := momentTellsUptoRow.holds Tryd.pinned (OpenSpec.upto momentTellsSpec)

/-- 'gyrelaw23.MomentStays', WHERE WHAT IT READS IS OF BULK AT MOST 1048576: true; the input reads as it did. -/
def momentStaysUptoRow : OpenClaim := { program := "ytjpjnjidchdlbaadoor", sum := "07fa223e8190861e2f1e3a5f0085a5ec974d17179103149f4f1815ba729e8d1a", func := "gyre/gyrelaw23.MomentStays", spec := "momentStays", unfollowed := true, recurses := true, named := ["gyre/conf.names"], apart := false, laid := [("gyre/conf.names", laid_gyre_conf_names)], narrowed := true }
def MomentStaysUptoSaid : Prop := momentStaysUptoRow.holds Tryd.pinned (OpenSpec.upto momentStaysSpec)

/-- 'gyrelaw23.MomentTurned', WHERE WHAT IT READS IS OF BULK AT MOST 1048576: true; the input reads as it did. -/
def momentTurnedUptoRow : OpenClaim := { program := "ytjpjnjidchdlbaadoor", sum := "07fa223e8190861e2f1e3a5f0085a5ec974d17179103149f4f1815ba729e8d1a", func := "gyre/gyrelaw23.MomentTurned", spec := "momentTurned", unfollowed := true, recurses := true, named := ["gyre/conf.names"], apart := false, laid := [("gyre/conf.names", laid_gyre_conf_names)], narrowed := true }
def MomentTurnedUptoSaid : Prop := momentTurnedUptoRow.holds Tryd.pinned (OpenSpec.upto momentTurnedSpec)

/-- 'gyrelaw23.MomentMoved', WHERE WHAT IT READS IS OF BULK AT MOST 1048576: true; the input reads as it did. -/
def momentMovedUptoRow : OpenClaim := { program := "ytjpjnjidchdlbaadoor", sum := "07fa223e8190861e2f1e3a5f0085a5ec974d17179103149f4f1815ba729e8d1a", func := "gyre/gyrelaw23.MomentMoved", spec := "momentMoved", unfollowed := true, recurses := true, named := ["gyre/conf.names"], apart := false, laid := [("gyre/conf.names", laid_gyre_conf_names)], narrowed := true }
def MomentMovedUptoSaid : Prop := momentMovedUptoRow.holds Tryd.pinned (OpenSpec.upto momentMovedSpec)

/-- 'gyrelaw23.MomentLost', WHERE WHAT IT READS IS OF BULK AT MOST 1048576: true; the input reads as it did. -/
def momentLostUptoRow : OpenClaim := { program := "ytjpjnjidchdlbaadoor", sum := "07fa223e8190861e2f1e3a5f0085a5ec974d17179103149f4f1815ba729e8d1a", func := "gyre/gyrelaw23.MomentLost", spec := "momentLost", unfollowed := true, recurses := true, named := ["gyre/conf.names"], apart := false, laid := [("gyre/conf.names", laid_gyre_conf_names)], narrowed := true }
def MomentLostUptoSaid : Prop := momentLostUptoRow.holds Tryd.pinned (OpenSpec.upto momentLostSpec)

end Rows
end Go.Proofs.YtjpjnjidchdlbaaDoor
