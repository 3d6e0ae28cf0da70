/-
  No cell of these rows narrows 'for every input' (looked for: loops, veiled, ifaces, maps, wideKeys, modest, calm, conditions, laid).
  DERIVED. THE GIVEN ROWS OF THIS SEAT. 27 by the template 'for every input the law returns true; each argument reads behind the call as it read before'; 0 by the template 'total and deterministic' (their statements: YtogijkmflhjhkaaTotals.lean).
  GIVEN WITH THE SEED: the statements are not yours to turn. If you find one false, say at which input.
  Laid BY PROGRAM, IN A SANDBOX (cutbox-rows.mjs): the forced cells as the released guide's own fill.sh prints them over the translation 9820efdd253e29fe… (all of the seat's roots in one cut). By AI agents, Wed Nov 11 2026. No macro, syntax, notation, axiom, sorry.
-/
import Derived.Test.YtogijkmflhjhkaaChecked
import GoSem.Claim
import GoSem.ClaimJoined
import GoSem.ClaimMapViews
import Derived.JoinedTies
import Derived.KernelRfl
namespace Go.Proofs.Ytogijkmflhjhkaa
/- THE CELL 'sum', in the pinned program and in every row, IS THE sha256 OF THE DUMP (.gsa) THAT YtogijkmflhjhkaaProg.lean LOADS. Nothing in Lean hashes anything: it is a label: what it is worth is what the hold of that sum in a sandbox is worth. -/
noncomputable def Try.pinned : Pinned := { name := "ytogijkmflhjhkaa", sum := "9820efdd253e29fe8bdf87db379435b5b684eda966419354309cf4ad2417a814", checked := Try.checked }
namespace Rows
def none {H : Type} : Left H := { results := [], args := [] }

/-- 'indenturelaw3.ShaAll': WHATEVER THE INPUT: true; the input reads as it did. -/
def shaAllSpec : ChangeSpec := { name := "shaAll", fn := fun _ => fun
  | [d1, d2] => { results := [.lit (.bool true)], args := [d1, d2] }
  | _ => none }
def shaAllRow : OpenClaim := { program := "ytogijkmflhjhkaa", sum := "9820efdd253e29fe8bdf87db379435b5b684eda966419354309cf4ad2417a814", func := "indenture/indenturelaw3.ShaAll", spec := "shaAll", apart := false }
def ShaAllSaid : Prop := shaAllRow.holds Try.pinned (OpenSpec.ofChange shaAllSpec)

/-- ITS FALSE NEIGHBOUR: 'it returns false'. Refute it at one input. -/
def shaAllWrong : ChangeSpec := { name := "shaAll", fn := fun _ => fun
  | [d1, d2] => { results := [.lit (.bool false)], args := [d1, d2] }
  | _ => none }
def ShaAllWrongFalsely : Prop := shaAllRow.holds Try.pinned (OpenSpec.ofChange shaAllWrong)

/-- 'indenturelaw3.ShaLong': WHATEVER THE INPUT: true; the input reads as it did. -/
def shaLongSpec : ChangeSpec := { name := "shaLong", fn := fun _ => fun
  | [d1, d2, d3] => { results := [.lit (.bool true)], args := [d1, d2, d3] }
  | _ => none }
def shaLongRow : OpenClaim := { program := "ytogijkmflhjhkaa", sum := "9820efdd253e29fe8bdf87db379435b5b684eda966419354309cf4ad2417a814", func := "indenture/indenturelaw3.ShaLong", spec := "shaLong", apart := false }
def ShaLongSaid : Prop := shaLongRow.holds Try.pinned (OpenSpec.ofChange shaLongSpec)

/-- ITS FALSE NEIGHBOUR: 'it returns false'. Refute it at one input. -/
def shaLongWrong : ChangeSpec := { name := "shaLong", fn := fun _ => fun
  | [d1, d2, d3] => { results := [.lit (.bool false)], args := [d1, d2, d3] }
  | _ => none }
def ShaLongWrongFalsely : Prop := shaLongRow.holds Try.pinned (OpenSpec.ofChange shaLongWrong)

/-- 'indenturelaw3.ShaOwn': WHATEVER THE INPUT: true; the input reads as it did. -/
def shaOwnSpec : ChangeSpec := { name := "shaOwn", fn := fun _ => fun
  | [d1, d2] => { results := [.lit (.bool true)], args := [d1, d2] }
  | _ => none }
def shaOwnRow : OpenClaim := { program := "ytogijkmflhjhkaa", sum := "9820efdd253e29fe8bdf87db379435b5b684eda966419354309cf4ad2417a814", func := "indenture/indenturelaw3.ShaOwn", spec := "shaOwn", apart := false }
def ShaOwnSaid : Prop := shaOwnRow.holds Try.pinned (OpenSpec.ofChange shaOwnSpec)

/-- ITS FALSE NEIGHBOUR: 'it returns false'. Refute it at one input. -/
def shaOwnWrong : ChangeSpec := { name := "shaOwn", fn := fun _ => fun
  | [d1, d2] => { results := [.lit (.bool false)], args := [d1, d2] }
  | _ => none }
def ShaOwnWrongFalsely : Prop := shaOwnRow.holds Try.pinned (OpenSpec.ofChange shaOwnWrong)

/-- 'indenturelaw3.ShaNone': WHATEVER THE INPUT: true; the input reads as it did. -/
def shaNoneSpec : ChangeSpec := { name := "shaNone", fn := fun _ => fun
  | [] => { results := [.lit (.bool true)], args := [] }
  | _ => none }
def shaNoneRow : OpenClaim := { program := "ytogijkmflhjhkaa", sum := "9820efdd253e29fe8bdf87db379435b5b684eda966419354309cf4ad2417a814", func := "indenture/indenturelaw3.ShaNone", spec := "shaNone", apart := false }
def ShaNoneSaid : Prop := shaNoneRow.holds Try.pinned (OpenSpec.ofChange shaNoneSpec)

/-- ITS FALSE NEIGHBOUR: 'it returns false'. Refute it at one input. -/
def shaNoneWrong : ChangeSpec := { name := "shaNone", fn := fun _ => fun
  | [] => { results := [.lit (.bool false)], args := [] }
  | _ => none }
def ShaNoneWrongFalsely : Prop := shaNoneRow.holds Try.pinned (OpenSpec.ofChange shaNoneWrong)

/-- 'indenturelaw3.MacKeys': WHATEVER THE INPUT: true; the input reads as it did. -/
def macKeysSpec : ChangeSpec := { name := "macKeys", fn := fun _ => fun
  | [d1, d2, d3] => { results := [.lit (.bool true)], args := [d1, d2, d3] }
  | _ => none }
def macKeysRow : OpenClaim := { program := "ytogijkmflhjhkaa", sum := "9820efdd253e29fe8bdf87db379435b5b684eda966419354309cf4ad2417a814", func := "indenture/indenturelaw3.MacKeys", spec := "macKeys", apart := false }
def MacKeysSaid : Prop := macKeysRow.holds Try.pinned (OpenSpec.ofChange macKeysSpec)

/-- ITS FALSE NEIGHBOUR: 'it returns false'. Refute it at one input. -/
def macKeysWrong : ChangeSpec := { name := "macKeys", fn := fun _ => fun
  | [d1, d2, d3] => { results := [.lit (.bool false)], args := [d1, d2, d3] }
  | _ => none }
def MacKeysWrongFalsely : Prop := macKeysRow.holds Try.pinned (OpenSpec.ofChange macKeysWrong)

/-- 'indenturelaw3.MacExpand': WHATEVER THE INPUT: true; the input reads as it did. -/
def macExpandSpec : ChangeSpec := { name := "macExpand", fn := fun _ => fun
  | [d1, d2, d3, d4] => { results := [.lit (.bool true)], args := [d1, d2, d3, d4] }
  | _ => none }
def macExpandRow : OpenClaim := { program := "ytogijkmflhjhkaa", sum := "9820efdd253e29fe8bdf87db379435b5b684eda966419354309cf4ad2417a814", func := "indenture/indenturelaw3.MacExpand", spec := "macExpand", apart := false }
def MacExpandSaid : Prop := macExpandRow.holds Try.pinned (OpenSpec.ofChange macExpandSpec)

/-- ITS FALSE NEIGHBOUR: 'it returns false'. Refute it at one input. -/
def macExpandWrong : ChangeSpec := { name := "macExpand", fn := fun _ => fun
  | [d1, d2, d3, d4] => { results := [.lit (.bool false)], args := [d1, d2, d3, d4] }
  | _ => none }
def MacExpandWrongFalsely : Prop := macExpandRow.holds Try.pinned (OpenSpec.ofChange macExpandWrong)

/-- 'indenturelaw3.MacSame': WHATEVER THE INPUT: true; the input reads as it did. -/
def macSameSpec : ChangeSpec := { name := "macSame", fn := fun _ => fun
  | [d1, d2, d3, d4] => { results := [.lit (.bool true)], args := [d1, d2, d3, d4] }
  | _ => none }
def macSameRow : OpenClaim := { program := "ytogijkmflhjhkaa", sum := "9820efdd253e29fe8bdf87db379435b5b684eda966419354309cf4ad2417a814", func := "indenture/indenturelaw3.MacSame", spec := "macSame", apart := false }
def MacSameSaid : Prop := macSameRow.holds Try.pinned (OpenSpec.ofChange macSameSpec)

/-- ITS FALSE NEIGHBOUR: 'it returns false'. Refute it at one input. -/
def macSameWrong : ChangeSpec := { name := "macSame", fn := fun _ => fun
  | [d1, d2, d3, d4] => { results := [.lit (.bool false)], args := [d1, d2, d3, d4] }
  | _ => none }
def MacSameWrongFalsely : Prop := macSameRow.holds Try.pinned (OpenSpec.ofChange macSameWrong)

/-- 'indenturelaw3.ShaParts': WHATEVER THE INPUT: true; the input reads as it did. -/
def shaPartsSpec : ChangeSpec := { name := "shaParts", fn := fun _ => fun
  | [d1, d2] => { results := [.lit (.bool true)], args := [d1, d2] }
  | _ => none }
def shaPartsRow : OpenClaim := { program := "ytogijkmflhjhkaa", sum := "9820efdd253e29fe8bdf87db379435b5b684eda966419354309cf4ad2417a814", func := "indenture/indenturelaw3.ShaParts", spec := "shaParts", apart := false }
def ShaPartsSaid : Prop := shaPartsRow.holds Try.pinned (OpenSpec.ofChange shaPartsSpec)

/-- ITS FALSE NEIGHBOUR: 'it returns false'. Refute it at one input. -/
def shaPartsWrong : ChangeSpec := { name := "shaParts", fn := fun _ => fun
  | [d1, d2] => { results := [.lit (.bool false)], args := [d1, d2] }
  | _ => none }
def ShaPartsWrongFalsely : Prop := shaPartsRow.holds Try.pinned (OpenSpec.ofChange shaPartsWrong)

/-- 'indenturelaw3.ShaUnlike': WHATEVER THE INPUT: true; the input reads as it did. -/
def shaUnlikeSpec : ChangeSpec := { name := "shaUnlike", fn := fun _ => fun
  | [d1, d2] => { results := [.lit (.bool true)], args := [d1, d2] }
  | _ => none }
def shaUnlikeRow : OpenClaim := { program := "ytogijkmflhjhkaa", sum := "9820efdd253e29fe8bdf87db379435b5b684eda966419354309cf4ad2417a814", func := "indenture/indenturelaw3.ShaUnlike", spec := "shaUnlike", apart := false }
def ShaUnlikeSaid : Prop := shaUnlikeRow.holds Try.pinned (OpenSpec.ofChange shaUnlikeSpec)

/-- ITS FALSE NEIGHBOUR: 'it returns false'. Refute it at one input. -/
def shaUnlikeWrong : ChangeSpec := { name := "shaUnlike", fn := fun _ => fun
  | [d1, d2] => { results := [.lit (.bool false)], args := [d1, d2] }
  | _ => none }
def ShaUnlikeWrongFalsely : Prop := shaUnlikeRow.holds Try.pinned (OpenSpec.ofChange shaUnlikeWrong)

/-- 'indenturelaw3.MacBlocks': WHATEVER THE INPUT: true; the input reads as it did. -/
def macBlocksSpec : ChangeSpec := { name := "macBlocks", fn := fun _ => fun
  | [d1, d2, d3] => { results := [.lit (.bool true)], args := [d1, d2, d3] }
  | _ => none }
def macBlocksRow : OpenClaim := { program := "ytogijkmflhjhkaa", sum := "9820efdd253e29fe8bdf87db379435b5b684eda966419354309cf4ad2417a814", func := "indenture/indenturelaw3.MacBlocks", spec := "macBlocks", apart := false }
def MacBlocksSaid : Prop := macBlocksRow.holds Try.pinned (OpenSpec.ofChange macBlocksSpec)

/-- ITS FALSE NEIGHBOUR: 'it returns false'. Refute it at one input. -/
def macBlocksWrong : ChangeSpec := { name := "macBlocks", fn := fun _ => fun
  | [d1, d2, d3] => { results := [.lit (.bool false)], args := [d1, d2, d3] }
  | _ => none }
def MacBlocksWrongFalsely : Prop := macBlocksRow.holds Try.pinned (OpenSpec.ofChange macBlocksWrong)

/-- 'indenturelaw3.MacAll': WHATEVER THE INPUT: true; the input reads as it did. -/
def macAllSpec : ChangeSpec := { name := "macAll", fn := fun _ => fun
  | [d1, d2, d3, d4, d5] => { results := [.lit (.bool true)], args := [d1, d2, d3, d4, d5] }
  | _ => none }
def macAllRow : OpenClaim := { program := "ytogijkmflhjhkaa", sum := "9820efdd253e29fe8bdf87db379435b5b684eda966419354309cf4ad2417a814", func := "indenture/indenturelaw3.MacAll", spec := "macAll", apart := false }
def MacAllSaid : Prop := macAllRow.holds Try.pinned (OpenSpec.ofChange macAllSpec)

/-- ITS FALSE NEIGHBOUR: 'it returns false'. Refute it at one input. -/
def macAllWrong : ChangeSpec := { name := "macAll", fn := fun _ => fun
  | [d1, d2, d3, d4, d5] => { results := [.lit (.bool false)], args := [d1, d2, d3, d4, d5] }
  | _ => none }
def MacAllWrongFalsely : Prop := macAllRow.holds Try.pinned (OpenSpec.ofChange macAllWrong)

/-- 'indenturelaw3.MacParts': WHATEVER THE INPUT: true; the input reads as it did. -/
def macPartsSpec : ChangeSpec := { name := "macParts", fn := fun _ => fun
  | [d1, d2, d3] => { results := [.lit (.bool true)], args := [d1, d2, d3] }
  | _ => none }
def macPartsRow : OpenClaim := { program := "ytogijkmflhjhkaa", sum := "9820efdd253e29fe8bdf87db379435b5b684eda966419354309cf4ad2417a814", func := "indenture/indenturelaw3.MacParts", spec := "macParts", apart := false }
def MacPartsSaid : Prop := macPartsRow.holds Try.pinned (OpenSpec.ofChange macPartsSpec)

/-- ITS FALSE NEIGHBOUR: 'it returns false'. Refute it at one input. -/
def macPartsWrong : ChangeSpec := { name := "macParts", fn := fun _ => fun
  | [d1, d2, d3] => { results := [.lit (.bool false)], args := [d1, d2, d3] }
  | _ => none }
def MacPartsWrongFalsely : Prop := macPartsRow.holds Try.pinned (OpenSpec.ofChange macPartsWrong)

/-- 'indenturelaw7.TapeAll': WHATEVER THE INPUT: true; the input reads as it did. -/
def tapeAllSpec : ChangeSpec := { name := "tapeAll", fn := fun _ => fun
  | [d1, d2] => { results := [.lit (.bool true)], args := [d1, d2] }
  | _ => none }
def tapeAllRow : OpenClaim := { program := "ytogijkmflhjhkaa", sum := "9820efdd253e29fe8bdf87db379435b5b684eda966419354309cf4ad2417a814", func := "indenture/indenturelaw7.TapeAll", spec := "tapeAll", apart := false }
def TapeAllSaid : Prop := tapeAllRow.holds Try.pinned (OpenSpec.ofChange tapeAllSpec)

/-- ITS FALSE NEIGHBOUR: 'it returns false'. Refute it at one input. -/
def tapeAllWrong : ChangeSpec := { name := "tapeAll", fn := fun _ => fun
  | [d1, d2] => { results := [.lit (.bool false)], args := [d1, d2] }
  | _ => none }
def TapeAllWrongFalsely : Prop := tapeAllRow.holds Try.pinned (OpenSpec.ofChange tapeAllWrong)

/-- 'indenturelaw7.TapeCopy': WHATEVER THE INPUT: true; the input reads as it did. -/
def tapeCopySpec : ChangeSpec := { name := "tapeCopy", fn := fun _ => fun
  | [d1, d2, d3] => { results := [.lit (.bool true)], args := [d1, d2, d3] }
  | _ => none }
def tapeCopyRow : OpenClaim := { program := "ytogijkmflhjhkaa", sum := "9820efdd253e29fe8bdf87db379435b5b684eda966419354309cf4ad2417a814", func := "indenture/indenturelaw7.TapeCopy", spec := "tapeCopy", apart := false }
def TapeCopySaid : Prop := tapeCopyRow.holds Try.pinned (OpenSpec.ofChange tapeCopySpec)

/-- ITS FALSE NEIGHBOUR: 'it returns false'. Refute it at one input. -/
def tapeCopyWrong : ChangeSpec := { name := "tapeCopy", fn := fun _ => fun
  | [d1, d2, d3] => { results := [.lit (.bool false)], args := [d1, d2, d3] }
  | _ => none }
def TapeCopyWrongFalsely : Prop := tapeCopyRow.holds Try.pinned (OpenSpec.ofChange tapeCopyWrong)

/-- 'indenturelaw7.TapeParts': WHATEVER THE INPUT: true; the input reads as it did. -/
def tapePartsSpec : ChangeSpec := { name := "tapeParts", fn := fun _ => fun
  | [d1, d2, d3] => { results := [.lit (.bool true)], args := [d1, d2, d3] }
  | _ => none }
def tapePartsRow : OpenClaim := { program := "ytogijkmflhjhkaa", sum := "9820efdd253e29fe8bdf87db379435b5b684eda966419354309cf4ad2417a814", func := "indenture/indenturelaw7.TapeParts", spec := "tapeParts", apart := false }
def TapePartsSaid : Prop := tapePartsRow.holds Try.pinned (OpenSpec.ofChange tapePartsSpec)

/-- ITS FALSE NEIGHBOUR: 'it returns false'. Refute it at one input. -/
def tapePartsWrong : ChangeSpec := { name := "tapeParts", fn := fun _ => fun
  | [d1, d2, d3] => { results := [.lit (.bool false)], args := [d1, d2, d3] }
  | _ => none }
def TapePartsWrongFalsely : Prop := tapePartsRow.holds Try.pinned (OpenSpec.ofChange tapePartsWrong)

/-- 'indenturelaw7.TapeLong': WHATEVER THE INPUT: true; the input reads as it did. -/
def tapeLongSpec : ChangeSpec := { name := "tapeLong", fn := fun _ => fun
  | [d1, d2] => { results := [.lit (.bool true)], args := [d1, d2] }
  | _ => none }
def tapeLongRow : OpenClaim := { program := "ytogijkmflhjhkaa", sum := "9820efdd253e29fe8bdf87db379435b5b684eda966419354309cf4ad2417a814", func := "indenture/indenturelaw7.TapeLong", spec := "tapeLong", apart := false }
def TapeLongSaid : Prop := tapeLongRow.holds Try.pinned (OpenSpec.ofChange tapeLongSpec)

/-- ITS FALSE NEIGHBOUR: 'it returns false'. Refute it at one input. -/
def tapeLongWrong : ChangeSpec := { name := "tapeLong", fn := fun _ => fun
  | [d1, d2] => { results := [.lit (.bool false)], args := [d1, d2] }
  | _ => none }
def TapeLongWrongFalsely : Prop := tapeLongRow.holds Try.pinned (OpenSpec.ofChange tapeLongWrong)

/-- 'indenturelaw4.ChachaAll': WHATEVER THE INPUT: true; the input reads as it did. -/
def chachaAllSpec : ChangeSpec := { name := "chachaAll", fn := fun _ => fun
  | [d1, d2, d3, d4, d5, d6, d7] => { results := [.lit (.bool true)], args := [d1, d2, d3, d4, d5, d6, d7] }
  | _ => none }
def chachaAllRow : OpenClaim := { program := "ytogijkmflhjhkaa", sum := "9820efdd253e29fe8bdf87db379435b5b684eda966419354309cf4ad2417a814", func := "indenture/indenturelaw4.ChachaAll", spec := "chachaAll", inPlace := ["math/bits.Add64"], unfollowed := true, recurses := true, apart := false }
def ChachaAllSaid : Prop := chachaAllRow.holds Try.pinned (OpenSpec.ofChange chachaAllSpec)

/-- ITS FALSE NEIGHBOUR: 'it returns false'. Refute it at one input. -/
def chachaAllWrong : ChangeSpec := { name := "chachaAll", fn := fun _ => fun
  | [d1, d2, d3, d4, d5, d6, d7] => { results := [.lit (.bool false)], args := [d1, d2, d3, d4, d5, d6, d7] }
  | _ => none }
def ChachaAllWrongFalsely : Prop := chachaAllRow.holds Try.pinned (OpenSpec.ofChange chachaAllWrong)

/-- 'indenturelaw4.ChachaTwice': WHATEVER THE INPUT: true; the input reads as it did. -/
def chachaTwiceSpec : ChangeSpec := { name := "chachaTwice", fn := fun _ => fun
  | [d1, d2, d3, d4, d5] => { results := [.lit (.bool true)], args := [d1, d2, d3, d4, d5] }
  | _ => none }
def chachaTwiceRow : OpenClaim := { program := "ytogijkmflhjhkaa", sum := "9820efdd253e29fe8bdf87db379435b5b684eda966419354309cf4ad2417a814", func := "indenture/indenturelaw4.ChachaTwice", spec := "chachaTwice", inPlace := ["math/bits.Add64"], unfollowed := true, recurses := true, apart := false }
def ChachaTwiceSaid : Prop := chachaTwiceRow.holds Try.pinned (OpenSpec.ofChange chachaTwiceSpec)

/-- ITS FALSE NEIGHBOUR: 'it returns false'. Refute it at one input. -/
def chachaTwiceWrong : ChangeSpec := { name := "chachaTwice", fn := fun _ => fun
  | [d1, d2, d3, d4, d5] => { results := [.lit (.bool false)], args := [d1, d2, d3, d4, d5] }
  | _ => none }
def ChachaTwiceWrongFalsely : Prop := chachaTwiceRow.holds Try.pinned (OpenSpec.ofChange chachaTwiceWrong)

/-- 'indenturelaw4.PolyAll': WHATEVER THE INPUT: true; the input reads as it did. -/
def polyAllSpec : ChangeSpec := { name := "polyAll", fn := fun _ => fun
  | [d1, d2] => { results := [.lit (.bool true)], args := [d1, d2] }
  | _ => none }
def polyAllRow : OpenClaim := { program := "ytogijkmflhjhkaa", sum := "9820efdd253e29fe8bdf87db379435b5b684eda966419354309cf4ad2417a814", func := "indenture/indenturelaw4.PolyAll", spec := "polyAll", inPlace := ["math/bits.Add64"], unfollowed := true, recurses := true, apart := false }
def PolyAllSaid : Prop := polyAllRow.holds Try.pinned (OpenSpec.ofChange polyAllSpec)

/-- ITS FALSE NEIGHBOUR: 'it returns false'. Refute it at one input. -/
def polyAllWrong : ChangeSpec := { name := "polyAll", fn := fun _ => fun
  | [d1, d2] => { results := [.lit (.bool false)], args := [d1, d2] }
  | _ => none }
def PolyAllWrongFalsely : Prop := polyAllRow.holds Try.pinned (OpenSpec.ofChange polyAllWrong)

/-- 'indenturelaw4.PolyEdges': WHATEVER THE INPUT: true; the input reads as it did. -/
def polyEdgesSpec : ChangeSpec := { name := "polyEdges", fn := fun _ => fun
  | [d1, d2, d3, d4] => { results := [.lit (.bool true)], args := [d1, d2, d3, d4] }
  | _ => none }
def polyEdgesRow : OpenClaim := { program := "ytogijkmflhjhkaa", sum := "9820efdd253e29fe8bdf87db379435b5b684eda966419354309cf4ad2417a814", func := "indenture/indenturelaw4.PolyEdges", spec := "polyEdges", inPlace := ["math/bits.Add64"], unfollowed := true, recurses := true, apart := false }
def PolyEdgesSaid : Prop := polyEdgesRow.holds Try.pinned (OpenSpec.ofChange polyEdgesSpec)

/-- ITS FALSE NEIGHBOUR: 'it returns false'. Refute it at one input. -/
def polyEdgesWrong : ChangeSpec := { name := "polyEdges", fn := fun _ => fun
  | [d1, d2, d3, d4] => { results := [.lit (.bool false)], args := [d1, d2, d3, d4] }
  | _ => none }
def PolyEdgesWrongFalsely : Prop := polyEdgesRow.holds Try.pinned (OpenSpec.ofChange polyEdgesWrong)

/-- 'indenturelaw4.AeadAll': WHATEVER THE INPUT: true; the input reads as it did. -/
def aeadAllSpec : ChangeSpec := { name := "aeadAll", fn := fun _ => fun
  | [d1, d2, d3, d4, d5, d6] => { results := [.lit (.bool true)], args := [d1, d2, d3, d4, d5, d6] }
  | _ => none }
def aeadAllRow : OpenClaim := { program := "ytogijkmflhjhkaa", sum := "9820efdd253e29fe8bdf87db379435b5b684eda966419354309cf4ad2417a814", func := "indenture/indenturelaw4.AeadAll", spec := "aeadAll", inPlace := ["math/bits.Add64"], unfollowed := true, recurses := true, apart := false }
def AeadAllSaid : Prop := aeadAllRow.holds Try.pinned (OpenSpec.ofChange aeadAllSpec)

/-- ITS FALSE NEIGHBOUR: 'it returns false'. Refute it at one input. -/
def aeadAllWrong : ChangeSpec := { name := "aeadAll", fn := fun _ => fun
  | [d1, d2, d3, d4, d5, d6] => { results := [.lit (.bool false)], args := [d1, d2, d3, d4, d5, d6] }
  | _ => none }
def AeadAllWrongFalsely : Prop := aeadAllRow.holds Try.pinned (OpenSpec.ofChange aeadAllWrong)

/-- 'indenturelaw4.AeadAny': WHATEVER THE INPUT: true; the input reads as it did. -/
def aeadAnySpec : ChangeSpec := { name := "aeadAny", fn := fun _ => fun
  | [d1, d2, d3, d4, d5, d6, d7] => { results := [.lit (.bool true)], args := [d1, d2, d3, d4, d5, d6, d7] }
  | _ => none }
def aeadAnyRow : OpenClaim := { program := "ytogijkmflhjhkaa", sum := "9820efdd253e29fe8bdf87db379435b5b684eda966419354309cf4ad2417a814", func := "indenture/indenturelaw4.AeadAny", spec := "aeadAny", inPlace := ["math/bits.Add64"], unfollowed := true, recurses := true, apart := false }
def AeadAnySaid : Prop := aeadAnyRow.holds Try.pinned (OpenSpec.ofChange aeadAnySpec)

/-- ITS FALSE NEIGHBOUR: 'it returns false'. Refute it at one input. -/
def aeadAnyWrong : ChangeSpec := { name := "aeadAny", fn := fun _ => fun
  | [d1, d2, d3, d4, d5, d6, d7] => { results := [.lit (.bool false)], args := [d1, d2, d3, d4, d5, d6, d7] }
  | _ => none }
def AeadAnyWrongFalsely : Prop := aeadAnyRow.holds Try.pinned (OpenSpec.ofChange aeadAnyWrong)

/-- 'indenturelaw4.ChachaKeys': WHATEVER THE INPUT: true; the input reads as it did. -/
def chachaKeysSpec : ChangeSpec := { name := "chachaKeys", fn := fun _ => fun
  | [d1, d2, d3, d4] => { results := [.lit (.bool true)], args := [d1, d2, d3, d4] }
  | _ => none }
def chachaKeysRow : OpenClaim := { program := "ytogijkmflhjhkaa", sum := "9820efdd253e29fe8bdf87db379435b5b684eda966419354309cf4ad2417a814", func := "indenture/indenturelaw4.ChachaKeys", spec := "chachaKeys", inPlace := ["math/bits.Add64"], unfollowed := true, recurses := true, apart := false }
def ChachaKeysSaid : Prop := chachaKeysRow.holds Try.pinned (OpenSpec.ofChange chachaKeysSpec)

/-- ITS FALSE NEIGHBOUR: 'it returns false'. Refute it at one input. -/
def chachaKeysWrong : ChangeSpec := { name := "chachaKeys", fn := fun _ => fun
  | [d1, d2, d3, d4] => { results := [.lit (.bool false)], args := [d1, d2, d3, d4] }
  | _ => none }
def ChachaKeysWrongFalsely : Prop := chachaKeysRow.holds Try.pinned (OpenSpec.ofChange chachaKeysWrong)

/-- 'indenturelaw4.ChachaRound': WHATEVER THE INPUT: true; the input reads as it did. -/
def chachaRoundSpec : ChangeSpec := { name := "chachaRound", fn := fun _ => fun
  | [d1, d2, d3, d4] => { results := [.lit (.bool true)], args := [d1, d2, d3, d4] }
  | _ => none }
def chachaRoundRow : OpenClaim := { program := "ytogijkmflhjhkaa", sum := "9820efdd253e29fe8bdf87db379435b5b684eda966419354309cf4ad2417a814", func := "indenture/indenturelaw4.ChachaRound", spec := "chachaRound", inPlace := ["math/bits.Add64"], unfollowed := true, recurses := true, apart := false }
def ChachaRoundSaid : Prop := chachaRoundRow.holds Try.pinned (OpenSpec.ofChange chachaRoundSpec)

/-- ITS FALSE NEIGHBOUR: 'it returns false'. Refute it at one input. -/
def chachaRoundWrong : ChangeSpec := { name := "chachaRound", fn := fun _ => fun
  | [d1, d2, d3, d4] => { results := [.lit (.bool false)], args := [d1, d2, d3, d4] }
  | _ => none }
def ChachaRoundWrongFalsely : Prop := chachaRoundRow.holds Try.pinned (OpenSpec.ofChange chachaRoundWrong)

/-- 'indenturelaw4.PolyParts': WHATEVER THE INPUT: true; the input reads as it did. -/
def polyPartsSpec : ChangeSpec := { name := "polyParts", fn := fun _ => fun
  | [d1, d2, d3] => { results := [.lit (.bool true)], args := [d1, d2, d3] }
  | _ => none }
def polyPartsRow : OpenClaim := { program := "ytogijkmflhjhkaa", sum := "9820efdd253e29fe8bdf87db379435b5b684eda966419354309cf4ad2417a814", func := "indenture/indenturelaw4.PolyParts", spec := "polyParts", inPlace := ["math/bits.Add64"], unfollowed := true, recurses := true, apart := false }
def PolyPartsSaid : Prop := polyPartsRow.holds Try.pinned (OpenSpec.ofChange polyPartsSpec)

/-- ITS FALSE NEIGHBOUR: 'it returns false'. Refute it at one input. -/
def polyPartsWrong : ChangeSpec := { name := "polyParts", fn := fun _ => fun
  | [d1, d2, d3] => { results := [.lit (.bool false)], args := [d1, d2, d3] }
  | _ => none }
def PolyPartsWrongFalsely : Prop := polyPartsRow.holds Try.pinned (OpenSpec.ofChange polyPartsWrong)

/-- 'indenturelaw4.PolyZero': WHATEVER THE INPUT: true; the input reads as it did. -/
def polyZeroSpec : ChangeSpec := { name := "polyZero", fn := fun _ => fun
  | [d1, d2] => { results := [.lit (.bool true)], args := [d1, d2] }
  | _ => none }
def polyZeroRow : OpenClaim := { program := "ytogijkmflhjhkaa", sum := "9820efdd253e29fe8bdf87db379435b5b684eda966419354309cf4ad2417a814", func := "indenture/indenturelaw4.PolyZero", spec := "polyZero", inPlace := ["math/bits.Add64"], unfollowed := true, recurses := true, apart := false }
def PolyZeroSaid : Prop := polyZeroRow.holds Try.pinned (OpenSpec.ofChange polyZeroSpec)

/-- ITS FALSE NEIGHBOUR: 'it returns false'. Refute it at one input. -/
def polyZeroWrong : ChangeSpec := { name := "polyZero", fn := fun _ => fun
  | [d1, d2] => { results := [.lit (.bool false)], args := [d1, d2] }
  | _ => none }
def PolyZeroWrongFalsely : Prop := polyZeroRow.holds Try.pinned (OpenSpec.ofChange polyZeroWrong)

/-- 'indenturelaw4.AeadLens': WHATEVER THE INPUT: true; the input reads as it did. -/
def aeadLensSpec : ChangeSpec := { name := "aeadLens", fn := fun _ => fun
  | [d1, d2, d3, d4] => { results := [.lit (.bool true)], args := [d1, d2, d3, d4] }
  | _ => none }
def aeadLensRow : OpenClaim := { program := "ytogijkmflhjhkaa", sum := "9820efdd253e29fe8bdf87db379435b5b684eda966419354309cf4ad2417a814", func := "indenture/indenturelaw4.AeadLens", spec := "aeadLens", inPlace := ["math/bits.Add64"], unfollowed := true, recurses := true, apart := false }
def AeadLensSaid : Prop := aeadLensRow.holds Try.pinned (OpenSpec.ofChange aeadLensSpec)

/-- ITS FALSE NEIGHBOUR: 'it returns false'. Refute it at one input. -/
def aeadLensWrong : ChangeSpec := { name := "aeadLens", fn := fun _ => fun
  | [d1, d2, d3, d4] => { results := [.lit (.bool false)], args := [d1, d2, d3, d4] }
  | _ => none }
def AeadLensWrongFalsely : Prop := aeadLensRow.holds Try.pinned (OpenSpec.ofChange aeadLensWrong)

/- THE SECOND FORM. 'bulk': how many values and letters a reading holds, each counted each time it is reached (what is shared counts as often as it is met; a slice's spare places count too). A statement '..UptoSaid' is the law's where the arguments, and the package variables that the reading takes, are together of bulk at most 1048576: NARROWER than '..Said'. Prove '..Said' where nothing that the law and all that it calls make is longer than what came in: it says more and counts as full. Else prove '..UptoSaid'. A law counts once. -/
mutual
def uptoBulk {H : Type} : DataW H → Nat
  | .lit (.string bytes) => bytes.length + 1
  | .lit _ => 1
  | .nil => 1
  | .ptr d => uptoBulk d + 1
  | .slice elems spare => uptoBulkAll elems + uptoBulkAll spare + 1
  | .agg parts => uptoBulkAll parts + 1
  | .iface _ d => uptoBulk d + 1
  | .map entries => uptoBulkEntries entries + 1
  | .held _ => 1
def uptoBulkAll {H : Type} : List (DataW H) → Nat
  | [] => 0
  | d :: r => uptoBulk d + uptoBulkAll r
def uptoBulkEntries {H : Type} : List (Lit × DataW H) → Nat
  | [] => 0
  | x :: r => uptoBulkEntry x + uptoBulkEntries r
def uptoBulkEntry {H : Type} : Lit × DataW H → Nat
  | (.string bytes, d) => bytes.length + uptoBulk d + 1
  | (_, d) => uptoBulk d + 1
 end
def uptoSmall : (H : Type) → List (DataW H) → Bool := fun _ ds => decide (uptoBulkAll ds ≤ 1048576)
def OpenSpec.upto (s : _root_.Go.ChangeSpec) : _root_.Go.OpenSpec := { _root_.Go.OpenSpec.ofChange s with cond := some uptoSmall }

/-- 'indenturelaw3.ShaAll', WHERE WHAT IT READS IS OF BULK AT MOST 1048576: true; the input reads as it did. -/
def shaAllUptoRow : OpenClaim := { program := "ytogijkmflhjhkaa", sum := "9820efdd253e29fe8bdf87db379435b5b684eda966419354309cf4ad2417a814", func := "indenture/indenturelaw3.ShaAll", spec := "shaAll", apart := false, narrowed := true }
def ShaAllUptoSaid : Prop := shaAllUptoRow.holds Try.pinned (OpenSpec.upto shaAllSpec)

/-- 'indenturelaw3.ShaLong', WHERE WHAT IT READS IS OF BULK AT MOST 1048576: true; the input reads as it did. -/
def shaLongUptoRow : OpenClaim := { program := "ytogijkmflhjhkaa", sum := "9820efdd253e29fe8bdf87db379435b5b684eda966419354309cf4ad2417a814", func := "indenture/indenturelaw3.ShaLong", spec := "shaLong", apart := false, narrowed := true }
def ShaLongUptoSaid : Prop := shaLongUptoRow.holds Try.pinned (OpenSpec.upto shaLongSpec)

/-- 'indenturelaw3.ShaOwn', WHERE WHAT IT READS IS OF BULK AT MOST 1048576: true; the input reads as it did. -/
def shaOwnUptoRow : OpenClaim := { program := "ytogijkmflhjhkaa", sum := "9820efdd253e29fe8bdf87db379435b5b684eda966419354309cf4ad2417a814", func := "indenture/indenturelaw3.ShaOwn", spec := "shaOwn", apart := false, narrowed := true }
def ShaOwnUptoSaid : Prop := shaOwnUptoRow.holds Try.pinned (OpenSpec.upto shaOwnSpec)

/-- 'indenturelaw3.ShaNone', WHERE WHAT IT READS IS OF BULK AT MOST 1048576: true; the input reads as it did. -/
def shaNoneUptoRow : OpenClaim := { program := "ytogijkmflhjhkaa", sum := "9820efdd253e29fe8bdf87db379435b5b684eda966419354309cf4ad2417a814", func := "indenture/indenturelaw3.ShaNone", spec := "shaNone", apart := false, narrowed := true }
def ShaNoneUptoSaid : Prop := shaNoneUptoRow.holds Try.pinned (OpenSpec.upto shaNoneSpec)

/-- 'indenturelaw3.MacKeys', WHERE WHAT IT READS IS OF BULK AT MOST 1048576: true; the input reads as it did. -/
def macKeysUptoRow : OpenClaim := { program := "ytogijkmflhjhkaa", sum := "9820efdd253e29fe8bdf87db379435b5b684eda966419354309cf4ad2417a814", func := "indenture/indenturelaw3.MacKeys", spec := "macKeys", apart := false, narrowed := true }
def MacKeysUptoSaid : Prop := macKeysUptoRow.holds Try.pinned (OpenSpec.upto macKeysSpec)

/-- 'indenturelaw3.MacExpand', WHERE WHAT IT READS IS OF BULK AT MOST 1048576: true; the input reads as it did. -/
def macExpandUptoRow : OpenClaim := { program := "ytogijkmflhjhkaa", sum := "9820efdd253e29fe8bdf87db379435b5b684eda966419354309cf4ad2417a814", func := "indenture/indenturelaw3.MacExpand", spec := "macExpand", apart := false, narrowed := true }
def MacExpandUptoSaid : Prop := macExpandUptoRow.holds Try.pinned (OpenSpec.upto macExpandSpec)

/-- 'indenturelaw3.MacSame', WHERE WHAT IT READS IS OF BULK AT MOST 1048576: true; the input reads as it did. -/
def macSameUptoRow : OpenClaim := { program := "ytogijkmflhjhkaa", sum := "9820efdd253e29fe8bdf87db379435b5b684eda966419354309cf4ad2417a814", func := "indenture/indenturelaw3.MacSame", spec := "macSame", apart := false, narrowed := true }
def MacSameUptoSaid : Prop := macSameUptoRow.holds Try.pinned (OpenSpec.upto macSameSpec)

/-- 'indenturelaw3.ShaParts', WHERE WHAT IT READS IS OF BULK AT MOST 1048576: true; the input reads as it did. -/
def shaPartsUptoRow : OpenClaim := { program := "ytogijkmflhjhkaa", sum := "9820efdd253e29fe8bdf87db379435b5b684eda966419354309cf4ad2417a814", func := "indenture/indenturelaw3.ShaParts", spec := "shaParts", apart := false, narrowed := true }
def ShaPartsUptoSaid : Prop := shaPartsUptoRow.holds Try.pinned (OpenSpec.upto shaPartsSpec)

/-- 'indenturelaw3.ShaUnlike', WHERE WHAT IT READS IS OF BULK AT MOST 1048576: true; the input reads as it did. -/
def shaUnlikeUptoRow : OpenClaim := { program := "ytogijkmflhjhkaa", sum := "9820efdd253e29fe8bdf87db379435b5b684eda966419354309cf4ad2417a814", func := "indenture/indenturelaw3.ShaUnlike", spec := "shaUnlike", apart := false, narrowed := true }
def ShaUnlikeUptoSaid : Prop := shaUnlikeUptoRow.holds Try.pinned (OpenSpec.upto shaUnlikeSpec)

/-- 'indenturelaw3.MacBlocks', WHERE WHAT IT READS IS OF BULK AT MOST 1048576: true; the input reads as it did. -/
def macBlocksUptoRow : OpenClaim := { program := "ytogijkmflhjhkaa", sum := "9820efdd253e29fe8bdf87db379435b5b684eda966419354309cf4ad2417a814", func := "indenture/indenturelaw3.MacBlocks", spec := "macBlocks", apart := false, narrowed := true }
def MacBlocksUptoSaid : Prop := macBlocksUptoRow.holds Try.pinned (OpenSpec.upto macBlocksSpec)

/-- 'indenturelaw3.MacAll', WHERE WHAT IT READS IS OF BULK AT MOST 1048576: true; the input reads as it did. -/
def macAllUptoRow : OpenClaim := { program := "ytogijkmflhjhkaa", sum := "9820efdd253e29fe8bdf87db379435b5b684eda966419354309cf4ad2417a814", func := "indenture/indenturelaw3.MacAll", spec := "macAll", apart := false, narrowed := true }
def MacAllUptoSaid : Prop := macAllUptoRow.holds Try.pinned (OpenSpec.upto macAllSpec)

/-- 'indenturelaw3.MacParts', WHERE WHAT IT READS IS OF BULK AT MOST 1048576: true; the input reads as it did. -/
def macPartsUptoRow : OpenClaim := { program := "ytogijkmflhjhkaa", sum := "9820efdd253e29fe8bdf87db379435b5b684eda966419354309cf4ad2417a814", func := "indenture/indenturelaw3.MacParts", spec := "macParts", apart := false, narrowed := true }
def MacPartsUptoSaid : Prop := macPartsUptoRow.holds Try.pinned (OpenSpec.upto macPartsSpec)

/-- 'indenturelaw7.TapeAll', WHERE WHAT IT READS IS OF BULK AT MOST 1048576: true; the input reads as it did. -/
def tapeAllUptoRow : OpenClaim := { program := "ytogijkmflhjhkaa", sum := "9820efdd253e29fe8bdf87db379435b5b684eda966419354309cf4ad2417a814", func := "indenture/indenturelaw7.TapeAll", spec := "tapeAll", apart := false, narrowed := true }
def TapeAllUptoSaid : Prop := tapeAllUptoRow.holds Try.pinned (OpenSpec.upto tapeAllSpec)

/-- 'indenturelaw7.TapeCopy', WHERE WHAT IT READS IS OF BULK AT MOST 1048576: true; the input reads as it did. -/
def tapeCopyUptoRow : OpenClaim := { program := "ytogijkmflhjhkaa", sum := "9820efdd253e29fe8bdf87db379435b5b684eda966419354309cf4ad2417a814", func := "indenture/indenturelaw7.TapeCopy", spec := "tapeCopy", apart := false, narrowed := true }
def TapeCopyUptoSaid : Prop := tapeCopyUptoRow.holds Try.pinned (OpenSpec.upto tapeCopySpec)

/-- 'indenturelaw7.TapeParts', WHERE WHAT IT READS IS OF BULK AT MOST 1048576: true; the input reads as it did. -/
def tapePartsUptoRow : OpenClaim := { program := "ytogijkmflhjhkaa", sum := "9820efdd253e29fe8bdf87db379435b5b684eda966419354309cf4ad2417a814", func := "indenture/indenturelaw7.TapeParts", spec := "tapeParts", apart := false, narrowed := true }
def TapePartsUptoSaid : Prop := tapePartsUptoRow.holds Try.pinned (OpenSpec.upto tapePartsSpec)

/-- 'indenturelaw7.TapeLong', WHERE WHAT IT READS IS OF BULK AT MOST 1048576: true; the input reads as it did. -/
def tapeLongUptoRow : OpenClaim := { program := "ytogijkmflhjhkaa", sum := "9820efdd253e29fe8bdf87db379435b5b684eda966419354309cf4ad2417a814", func := "indenture/indenturelaw7.TapeLong", spec := "tapeLong", apart := false, narrowed := true }
def TapeLongUptoSaid : Prop := tapeLongUptoRow.holds Try.pinned (OpenSpec.upto tapeLongSpec)

/-- 'indenturelaw4.ChachaAll', WHERE WHAT IT READS IS OF BULK AT MOST 1048576: true; the input reads as it did. -/
def chachaAllUptoRow : OpenClaim := { program := "ytogijkmflhjhkaa", sum := "9820efdd253e29fe8bdf87db379435b5b684eda966419354309cf4ad2417a814", func := "indenture/indenturelaw4.ChachaAll", spec := "chachaAll", inPlace := ["math/bits.Add64"], unfollowed := true, recurses := true, apart := false, narrowed := true }
def ChachaAllUptoSaid : Prop := chachaAllUptoRow.holds Try.pinned (OpenSpec.upto chachaAllSpec)

/-- 'indenturelaw4.ChachaTwice', WHERE WHAT IT READS IS OF BULK AT MOST 1048576: true; the input reads as it did. -/
def chachaTwiceUptoRow : OpenClaim := { program := "ytogijkmflhjhkaa", sum := "9820efdd253e29fe8bdf87db379435b5b684eda966419354309cf4ad2417a814", func := "indenture/indenturelaw4.ChachaTwice", spec := "chachaTwice", inPlace := ["math/bits.Add64"], unfollowed := true, recurses := true, apart := false, narrowed := true }
def ChachaTwiceUptoSaid : Prop := chachaTwiceUptoRow.holds Try.pinned (OpenSpec.upto chachaTwiceSpec)

/-- 'indenturelaw4.PolyAll', WHERE WHAT IT READS IS OF BULK AT MOST 1048576: true; the input reads as it did. -/
def polyAllUptoRow : OpenClaim := { program := "ytogijkmflhjhkaa", sum := "9820efdd253e29fe8bdf87db379435b5b684eda966419354309cf4ad2417a814", func := "indenture/indenturelaw4.PolyAll", spec := "polyAll", inPlace := ["math/bits.Add64"], unfollowed := true, recurses := true, apart := false, narrowed := true }
def PolyAllUptoSaid : Prop := polyAllUptoRow.holds Try.pinned (OpenSpec.upto polyAllSpec)

/-- 'indenturelaw4.PolyEdges', WHERE WHAT IT READS IS OF BULK AT MOST 1048576: true; the input reads as it did. -/
def polyEdgesUptoRow : OpenClaim := { program := "ytogijkmflhjhkaa", sum := "9820efdd253e29fe8bdf87db379435b5b684eda966419354309cf4ad2417a814", func := "indenture/indenturelaw4.PolyEdges", spec := "polyEdges", inPlace := ["math/bits.Add64"], unfollowed := true, recurses := true, apart := false, narrowed := true }
def PolyEdgesUptoSaid : Prop := polyEdgesUptoRow.holds Try.pinned (OpenSpec.upto polyEdgesSpec)

/-- 'indenturelaw4.AeadAll', WHERE WHAT IT READS IS OF BULK AT MOST 1048576: true; the input reads as it did. -/
def aeadAllUptoRow : OpenClaim := { program := "ytogijkmflhjhkaa", sum := "9820efdd253e29fe8bdf87db379435b5b684eda966419354309cf4ad2417a814", func := "indenture/indenturelaw4.AeadAll", spec := "aeadAll", inPlace := ["math/bits.Add64"], unfollowed := true, recurses := true, apart := false, narrowed := true }
def AeadAllUptoSaid : Prop := aeadAllUptoRow.holds Try.pinned (OpenSpec.upto aeadAllSpec)

/-- 'indenturelaw4.AeadAny', WHERE WHAT IT READS IS OF BULK AT MOST 1048576: true; the input reads as it did. -/
def aeadAnyUptoRow : OpenClaim := { program := "ytogijkmflhjhkaa", sum := "9820efdd253e29fe8bdf87db379435b5b684eda966419354309cf4ad2417a814", func := "indenture/indenturelaw4.AeadAny", spec := "aeadAny", inPlace := ["math/bits.Add64"], unfollowed := true, recurses := true, apart := false, narrowed := true }
def AeadAnyUptoSaid : Prop := aeadAnyUptoRow.holds Try.pinned (OpenSpec.upto aeadAnySpec)

/-- 'indenturelaw4.ChachaKeys', WHERE WHAT IT READS IS OF BULK AT MOST 1048576: true; the input reads as it did. -/
def chachaKeysUptoRow : OpenClaim := { program := "ytogijkmflhjhkaa", sum := "9820efdd253e29fe8bdf87db379435b5b684eda966419354309cf4ad2417a814", func := "indenture/indenturelaw4.ChachaKeys", spec := "chachaKeys", inPlace := ["math/bits.Add64"], unfollowed := true, recurses := true, apart := false, narrowed := true }
def ChachaKeysUptoSaid : Prop := chachaKeysUptoRow.holds Try.pinned (OpenSpec.upto chachaKeysSpec)

/-- 'indenturelaw4.ChachaRound', WHERE WHAT IT READS IS OF BULK AT MOST 1048576: true; the input reads as it did. -/
def chachaRoundUptoRow : OpenClaim := { program := "ytogijkmflhjhkaa", sum := "9820efdd253e29fe8bdf87db379435b5b684eda966419354309cf4ad2417a814", func := "indenture/indenturelaw4.ChachaRound", spec := "chachaRound", inPlace := ["math/bits.Add64"], unfollowed := true, recurses := true, apart := false, narrowed := true }
def ChachaRoundUptoSaid : Prop := chachaRoundUptoRow.holds Try.pinned (OpenSpec.upto chachaRoundSpec)

/-- 'indenturelaw4.PolyParts', WHERE WHAT IT READS IS OF BULK AT MOST 1048576: true; the input reads as it did. -/
def polyPartsUptoRow : OpenClaim := { program := "ytogijkmflhjhkaa", sum := "9820efdd253e29fe8bdf87db379435b5b684eda966419354309cf4ad2417a814", func := "indenture/indenturelaw4.PolyParts", spec := "polyParts", inPlace := ["math/bits.Add64"], unfollowed := true, recurses := true, apart := false, narrowed := true }
def PolyPartsUptoSaid : Prop := polyPartsUptoRow.holds Try.pinned (OpenSpec.upto polyPartsSpec)

/-- 'indenturelaw4.PolyZero', WHERE WHAT IT READS IS OF BULK AT MOST 1048576: true; the input reads as it did. -/
def polyZeroUptoRow : OpenClaim := { program := "ytogijkmflhjhkaa", sum := "9820efdd253e29fe8bdf87db379435b5b684eda966419354309cf4ad2417a814", func := "indenture/indenturelaw4.PolyZero", spec := "polyZero", inPlace := ["math/bits.Add64"], unfollowed := true, recurses := true, apart := false, narrowed := true }
def PolyZeroUptoSaid : Prop := polyZeroUptoRow.holds Try.pinned (OpenSpec.upto polyZeroSpec)

/-- 'indenturelaw4.AeadLens', WHERE WHAT IT READS IS OF BULK AT MOST 1048576: true; the input reads as it did. -/
def aeadLensUptoRow : OpenClaim := { program := "ytogijkmflhjhkaa", sum := "9820efdd253e29fe8bdf87db379435b5b684eda966419354309cf4ad2417a814", func := "indenture/indenturelaw4.AeadLens", spec := "aeadLens", inPlace := ["math/bits.Add64"], unfollowed := true, recurses := true, apart := false, narrowed := true }
def AeadLensUptoSaid : Prop := aeadLensUptoRow.holds Try.pinned (OpenSpec.upto aeadLensSpec)

end Rows
end Go.Proofs.Ytogijkmflhjhkaa
