/-
  No cell of these rows narrows 'for every input' (looked for: loops, veiled, ifaces, maps, wideKeys, modest, calm, conditions, laid).
  DERIVED. THE GIVEN ROWS OF THIS SEAT. 28 by the template 'for every input the law returns true; each argument reads behind the call as it read before'; 0 by the template 'total and deterministic' (their statements: YtohoimokfgfceaaTotals.lean).
  GIVEN WITH THE SEED: the statements are not yours to turn. If you find one false, say at which input.
  Laid BY PROGRAM, IN A SANDBOX (cutbox-rows.mjs): the forced cells as the released guide's own fill.sh prints them over the translation e8c26342db14896c… (all of the seat's roots in one cut). By AI agents, Wed Nov 11 2026. No macro, syntax, notation, axiom, sorry.
-/
import Derived.Test.YtohoimokfgfceaaChecked
import GoSem.Claim
import GoSem.ClaimJoined
import GoSem.ClaimMapViews
import Derived.JoinedTies
import Derived.KernelRfl
namespace Go.Proofs.Ytohoimokfgfceaa
/- THE CELL 'sum', in the pinned program and in every row, IS THE sha256 OF THE DUMP (.gsa) THAT YtohoimokfgfceaaProg.lean LOADS. Nothing in Lean hashes anything: it is a label: what it is worth is what the hold of that sum in a sandbox is worth. -/
noncomputable def Try.pinned : Pinned := { name := "ytohoimokfgfceaa", sum := "e8c26342db14896ca7dbbc8817404c8cb57aa733e50ad9dff30bab7c375fff53", checked := Try.checked }
namespace Rows
def none {H : Type} : Left H := { results := [], args := [] }

/-- 'creellaw12.TreePlays': WHATEVER THE INPUT: true; the input reads as it did. -/
def treePlaysSpec : ChangeSpec := { name := "treePlays", fn := fun _ => fun
  | [d1, d2] => { results := [.lit (.bool true)], args := [d1, d2] }
  | _ => none }
def treePlaysRow : OpenClaim := { program := "ytohoimokfgfceaa", sum := "e8c26342db14896ca7dbbc8817404c8cb57aa733e50ad9dff30bab7c375fff53", func := "creel/creellaw12.TreePlays", spec := "treePlays", inPlace := ["internal/bytealg.Compare"], unfollowed := true, recurses := true, apart := false }
def TreePlaysSaid : Prop := treePlaysRow.holds Try.pinned (OpenSpec.ofChange treePlaysSpec)

/-- ITS FALSE NEIGHBOUR: 'it returns false'. Refute it at one input. -/
def treePlaysWrong : ChangeSpec := { name := "treePlays", fn := fun _ => fun
  | [d1, d2] => { results := [.lit (.bool false)], args := [d1, d2] }
  | _ => none }
def TreePlaysWrongFalsely : Prop := treePlaysRow.holds Try.pinned (OpenSpec.ofChange treePlaysWrong)

/-- 'creellaw12.TreeMerges': WHATEVER THE INPUT: true; the input reads as it did. -/
def treeMergesSpec : ChangeSpec := { name := "treeMerges", fn := fun _ => fun
  | [d] => { results := [.lit (.bool true)], args := [d] }
  | _ => none }
def treeMergesRow : OpenClaim := { program := "ytohoimokfgfceaa", sum := "e8c26342db14896ca7dbbc8817404c8cb57aa733e50ad9dff30bab7c375fff53", func := "creel/creellaw12.TreeMerges", spec := "treeMerges", inPlace := ["internal/bytealg.Compare"], unfollowed := true, recurses := true, apart := false }
def TreeMergesSaid : Prop := treeMergesRow.holds Try.pinned (OpenSpec.ofChange treeMergesSpec)

/-- ITS FALSE NEIGHBOUR: 'it returns false'. Refute it at one input. -/
def treeMergesWrong : ChangeSpec := { name := "treeMerges", fn := fun _ => fun
  | [d] => { results := [.lit (.bool false)], args := [d] }
  | _ => none }
def TreeMergesWrongFalsely : Prop := treeMergesRow.holds Try.pinned (OpenSpec.ofChange treeMergesWrong)

/-- 'creellaw12.TreeSorts': WHATEVER THE INPUT: true; the input reads as it did. -/
def treeSortsSpec : ChangeSpec := { name := "treeSorts", fn := fun _ => fun
  | [d1, d2] => { results := [.lit (.bool true)], args := [d1, d2] }
  | _ => none }
def treeSortsRow : OpenClaim := { program := "ytohoimokfgfceaa", sum := "e8c26342db14896ca7dbbc8817404c8cb57aa733e50ad9dff30bab7c375fff53", func := "creel/creellaw12.TreeSorts", spec := "treeSorts", inPlace := ["internal/bytealg.Compare"], unfollowed := true, recurses := true, apart := false }
def TreeSortsSaid : Prop := treeSortsRow.holds Try.pinned (OpenSpec.ofChange treeSortsSpec)

/-- ITS FALSE NEIGHBOUR: 'it returns false'. Refute it at one input. -/
def treeSortsWrong : ChangeSpec := { name := "treeSorts", fn := fun _ => fun
  | [d1, d2] => { results := [.lit (.bool false)], args := [d1, d2] }
  | _ => none }
def TreeSortsWrongFalsely : Prop := treeSortsRow.holds Try.pinned (OpenSpec.ofChange treeSortsWrong)

/-- 'creellaw12.TreeGames': WHATEVER THE INPUT: true; the input reads as it did. -/
def treeGamesSpec : ChangeSpec := { name := "treeGames", fn := fun _ => fun
  | [d1, d2] => { results := [.lit (.bool true)], args := [d1, d2] }
  | _ => none }
def treeGamesRow : OpenClaim := { program := "ytohoimokfgfceaa", sum := "e8c26342db14896ca7dbbc8817404c8cb57aa733e50ad9dff30bab7c375fff53", func := "creel/creellaw12.TreeGames", spec := "treeGames", inPlace := ["internal/bytealg.Compare"], unfollowed := true, recurses := true, apart := false }
def TreeGamesSaid : Prop := treeGamesRow.holds Try.pinned (OpenSpec.ofChange treeGamesSpec)

/-- ITS FALSE NEIGHBOUR: 'it returns false'. Refute it at one input. -/
def treeGamesWrong : ChangeSpec := { name := "treeGames", fn := fun _ => fun
  | [d1, d2] => { results := [.lit (.bool false)], args := [d1, d2] }
  | _ => none }
def TreeGamesWrongFalsely : Prop := treeGamesRow.holds Try.pinned (OpenSpec.ofChange treeGamesWrong)

/-- 'creellaw12.TreeNil': WHATEVER THE INPUT: true; the input reads as it did. -/
def treeNilSpec : ChangeSpec := { name := "treeNil", fn := fun _ => fun
  | [d] => { results := [.lit (.bool true)], args := [d] }
  | _ => none }
def treeNilRow : OpenClaim := { program := "ytohoimokfgfceaa", sum := "e8c26342db14896ca7dbbc8817404c8cb57aa733e50ad9dff30bab7c375fff53", func := "creel/creellaw12.TreeNil", spec := "treeNil", inPlace := ["internal/bytealg.Compare"], unfollowed := true, recurses := true, apart := false }
def TreeNilSaid : Prop := treeNilRow.holds Try.pinned (OpenSpec.ofChange treeNilSpec)

/-- ITS FALSE NEIGHBOUR: 'it returns false'. Refute it at one input. -/
def treeNilWrong : ChangeSpec := { name := "treeNil", fn := fun _ => fun
  | [d] => { results := [.lit (.bool false)], args := [d] }
  | _ => none }
def TreeNilWrongFalsely : Prop := treeNilRow.holds Try.pinned (OpenSpec.ofChange treeNilWrong)

/-- 'creellaw12.TreeLeast': WHATEVER THE INPUT: true; the input reads as it did. -/
def treeLeastSpec : ChangeSpec := { name := "treeLeast", fn := fun _ => fun
  | [d] => { results := [.lit (.bool true)], args := [d] }
  | _ => none }
def treeLeastRow : OpenClaim := { program := "ytohoimokfgfceaa", sum := "e8c26342db14896ca7dbbc8817404c8cb57aa733e50ad9dff30bab7c375fff53", func := "creel/creellaw12.TreeLeast", spec := "treeLeast", inPlace := ["internal/bytealg.Compare"], unfollowed := true, recurses := true, apart := false }
def TreeLeastSaid : Prop := treeLeastRow.holds Try.pinned (OpenSpec.ofChange treeLeastSpec)

/-- ITS FALSE NEIGHBOUR: 'it returns false'. Refute it at one input. -/
def treeLeastWrong : ChangeSpec := { name := "treeLeast", fn := fun _ => fun
  | [d] => { results := [.lit (.bool false)], args := [d] }
  | _ => none }
def TreeLeastWrongFalsely : Prop := treeLeastRow.holds Try.pinned (OpenSpec.ofChange treeLeastWrong)

/-- 'creellaw12.TreeAgain': WHATEVER THE INPUT: true; the input reads as it did. -/
def treeAgainSpec : ChangeSpec := { name := "treeAgain", fn := fun _ => fun
  | [d] => { results := [.lit (.bool true)], args := [d] }
  | _ => none }
def treeAgainRow : OpenClaim := { program := "ytohoimokfgfceaa", sum := "e8c26342db14896ca7dbbc8817404c8cb57aa733e50ad9dff30bab7c375fff53", func := "creel/creellaw12.TreeAgain", spec := "treeAgain", inPlace := ["internal/bytealg.Compare"], unfollowed := true, recurses := true, apart := false }
def TreeAgainSaid : Prop := treeAgainRow.holds Try.pinned (OpenSpec.ofChange treeAgainSpec)

/-- ITS FALSE NEIGHBOUR: 'it returns false'. Refute it at one input. -/
def treeAgainWrong : ChangeSpec := { name := "treeAgain", fn := fun _ => fun
  | [d] => { results := [.lit (.bool false)], args := [d] }
  | _ => none }
def TreeAgainWrongFalsely : Prop := treeAgainRow.holds Try.pinned (OpenSpec.ofChange treeAgainWrong)

/-- 'creellaw13.RunNil': WHATEVER THE INPUT: true; the input reads as it did. -/
def runNilSpec : ChangeSpec := { name := "runNil", fn := fun _ => fun
  | [d1, d2] => { results := [.lit (.bool true)], args := [d1, d2] }
  | _ => none }
def runNilRow : OpenClaim := { program := "ytohoimokfgfceaa", sum := "e8c26342db14896ca7dbbc8817404c8cb57aa733e50ad9dff30bab7c375fff53", func := "creel/creellaw13.RunNil", spec := "runNil", inPlace := ["internal/bytealg.Compare", "maps.clone"], apart := false }
def RunNilSaid : Prop := runNilRow.holds Try.pinned (OpenSpec.ofChange runNilSpec)

/-- ITS FALSE NEIGHBOUR: 'it returns false'. Refute it at one input. -/
def runNilWrong : ChangeSpec := { name := "runNil", fn := fun _ => fun
  | [d1, d2] => { results := [.lit (.bool false)], args := [d1, d2] }
  | _ => none }
def RunNilWrongFalsely : Prop := runNilRow.holds Try.pinned (OpenSpec.ofChange runNilWrong)

/-- 'creellaw13.RunBack': WHATEVER THE INPUT: true; the input reads as it did. -/
def runBackSpec : ChangeSpec := { name := "runBack", fn := fun _ => fun
  | [d] => { results := [.lit (.bool true)], args := [d] }
  | _ => none }
def runBackRow : OpenClaim := { program := "ytohoimokfgfceaa", sum := "e8c26342db14896ca7dbbc8817404c8cb57aa733e50ad9dff30bab7c375fff53", func := "creel/creellaw13.RunBack", spec := "runBack", inPlace := ["internal/bytealg.Compare", "maps.clone"], unfollowed := true, recurses := true, apart := false }
def RunBackSaid : Prop := runBackRow.holds Try.pinned (OpenSpec.ofChange runBackSpec)

/-- ITS FALSE NEIGHBOUR: 'it returns false'. Refute it at one input. -/
def runBackWrong : ChangeSpec := { name := "runBack", fn := fun _ => fun
  | [d] => { results := [.lit (.bool false)], args := [d] }
  | _ => none }
def RunBackWrongFalsely : Prop := runBackRow.holds Try.pinned (OpenSpec.ofChange runBackWrong)

/-- 'creellaw13.RunTells': WHATEVER THE INPUT: true; the input reads as it did. -/
def runTellsSpec : ChangeSpec := { name := "runTells", fn := fun _ => fun
  | [d] => { results := [.lit (.bool true)], args := [d] }
  | _ => none }
def runTellsRow : OpenClaim := { program := "ytohoimokfgfceaa", sum := "e8c26342db14896ca7dbbc8817404c8cb57aa733e50ad9dff30bab7c375fff53", func := "creel/creellaw13.RunTells", spec := "runTells", inPlace := ["internal/bytealg.Compare", "maps.clone"], unfollowed := true, recurses := true, apart := false }
def RunTellsSaid : Prop := runTellsRow.holds Try.pinned (OpenSpec.ofChange runTellsSpec)

/-- ITS FALSE NEIGHBOUR: 'it returns false'. Refute it at one input. -/
def runTellsWrong : ChangeSpec := { name := "runTells", fn := fun _ => fun
  | [d] => { results := [.lit (.bool false)], args := [d] }
  | _ => none }
def RunTellsWrongFalsely : Prop := runTellsRow.holds Try.pinned (OpenSpec.ofChange runTellsWrong)

/-- 'creellaw04.DiskDown': WHATEVER THE INPUT: true; the input reads as it did. -/
def diskDownSpec : ChangeSpec := { name := "diskDown", fn := fun _ => fun
  | [d1, d2, d3, d4] => { results := [.lit (.bool true)], args := [d1, d2, d3, d4] }
  | _ => none }
def diskDownRow : OpenClaim := { program := "ytohoimokfgfceaa", sum := "e8c26342db14896ca7dbbc8817404c8cb57aa733e50ad9dff30bab7c375fff53", func := "creel/creellaw04.DiskDown", spec := "diskDown", inPlace := ["maps.clone"], recurses := true, apart := false }
def DiskDownSaid : Prop := diskDownRow.holds Try.pinned (OpenSpec.ofChange diskDownSpec)

/-- ITS FALSE NEIGHBOUR: 'it returns false'. Refute it at one input. -/
def diskDownWrong : ChangeSpec := { name := "diskDown", fn := fun _ => fun
  | [d1, d2, d3, d4] => { results := [.lit (.bool false)], args := [d1, d2, d3, d4] }
  | _ => none }
def DiskDownWrongFalsely : Prop := diskDownRow.holds Try.pinned (OpenSpec.ofChange diskDownWrong)

/-- 'creellaw04.DiskRoom': WHATEVER THE INPUT: true; the input reads as it did. -/
def diskRoomSpec : ChangeSpec := { name := "diskRoom", fn := fun _ => fun
  | [d1, d2] => { results := [.lit (.bool true)], args := [d1, d2] }
  | _ => none }
def diskRoomRow : OpenClaim := { program := "ytohoimokfgfceaa", sum := "e8c26342db14896ca7dbbc8817404c8cb57aa733e50ad9dff30bab7c375fff53", func := "creel/creellaw04.DiskRoom", spec := "diskRoom", inPlace := ["maps.clone"], recurses := true, apart := false }
def DiskRoomSaid : Prop := diskRoomRow.holds Try.pinned (OpenSpec.ofChange diskRoomSpec)

/-- ITS FALSE NEIGHBOUR: 'it returns false'. Refute it at one input. -/
def diskRoomWrong : ChangeSpec := { name := "diskRoom", fn := fun _ => fun
  | [d1, d2] => { results := [.lit (.bool false)], args := [d1, d2] }
  | _ => none }
def DiskRoomWrongFalsely : Prop := diskRoomRow.holds Try.pinned (OpenSpec.ofChange diskRoomWrong)

/-- 'creellaw04.DiskNames': WHATEVER THE INPUT: true; the input reads as it did. -/
def diskNamesSpec : ChangeSpec := { name := "diskNames", fn := fun _ => fun
  | [d1, d2, d3] => { results := [.lit (.bool true)], args := [d1, d2, d3] }
  | _ => none }
def diskNamesRow : OpenClaim := { program := "ytohoimokfgfceaa", sum := "e8c26342db14896ca7dbbc8817404c8cb57aa733e50ad9dff30bab7c375fff53", func := "creel/creellaw04.DiskNames", spec := "diskNames", inPlace := ["maps.clone"], recurses := true, apart := false }
def DiskNamesSaid : Prop := diskNamesRow.holds Try.pinned (OpenSpec.ofChange diskNamesSpec)

/-- ITS FALSE NEIGHBOUR: 'it returns false'. Refute it at one input. -/
def diskNamesWrong : ChangeSpec := { name := "diskNames", fn := fun _ => fun
  | [d1, d2, d3] => { results := [.lit (.bool false)], args := [d1, d2, d3] }
  | _ => none }
def DiskNamesWrongFalsely : Prop := diskNamesRow.holds Try.pinned (OpenSpec.ofChange diskNamesWrong)

/-- 'creellaw04.DiskPlays': WHATEVER THE INPUT: true; the input reads as it did. -/
def diskPlaysSpec : ChangeSpec := { name := "diskPlays", fn := fun _ => fun
  | [d1, d2, d3] => { results := [.lit (.bool true)], args := [d1, d2, d3] }
  | _ => none }
def diskPlaysRow : OpenClaim := { program := "ytohoimokfgfceaa", sum := "e8c26342db14896ca7dbbc8817404c8cb57aa733e50ad9dff30bab7c375fff53", func := "creel/creellaw04.DiskPlays", spec := "diskPlays", inPlace := ["maps.clone"], unfollowed := true, recurses := true, apart := false }
def DiskPlaysSaid : Prop := diskPlaysRow.holds Try.pinned (OpenSpec.ofChange diskPlaysSpec)

/-- ITS FALSE NEIGHBOUR: 'it returns false'. Refute it at one input. -/
def diskPlaysWrong : ChangeSpec := { name := "diskPlays", fn := fun _ => fun
  | [d1, d2, d3] => { results := [.lit (.bool false)], args := [d1, d2, d3] }
  | _ => none }
def DiskPlaysWrongFalsely : Prop := diskPlaysRow.holds Try.pinned (OpenSpec.ofChange diskPlaysWrong)

/-- 'creellaw04.DiskKept': WHATEVER THE INPUT: true; the input reads as it did. -/
def diskKeptSpec : ChangeSpec := { name := "diskKept", fn := fun _ => fun
  | [d1, d2, d3] => { results := [.lit (.bool true)], args := [d1, d2, d3] }
  | _ => none }
def diskKeptRow : OpenClaim := { program := "ytohoimokfgfceaa", sum := "e8c26342db14896ca7dbbc8817404c8cb57aa733e50ad9dff30bab7c375fff53", func := "creel/creellaw04.DiskKept", spec := "diskKept", inPlace := ["maps.clone"], unfollowed := true, recurses := true, apart := false }
def DiskKeptSaid : Prop := diskKeptRow.holds Try.pinned (OpenSpec.ofChange diskKeptSpec)

/-- ITS FALSE NEIGHBOUR: 'it returns false'. Refute it at one input. -/
def diskKeptWrong : ChangeSpec := { name := "diskKept", fn := fun _ => fun
  | [d1, d2, d3] => { results := [.lit (.bool false)], args := [d1, d2, d3] }
  | _ => none }
def DiskKeptWrongFalsely : Prop := diskKeptRow.holds Try.pinned (OpenSpec.ofChange diskKeptWrong)

/-- 'creellaw04.DiskCrash': WHATEVER THE INPUT: true; the input reads as it did. -/
def diskCrashSpec : ChangeSpec := { name := "diskCrash", fn := fun _ => fun
  | [d1, d2, d3, d4] => { results := [.lit (.bool true)], args := [d1, d2, d3, d4] }
  | _ => none }
def diskCrashRow : OpenClaim := { program := "ytohoimokfgfceaa", sum := "e8c26342db14896ca7dbbc8817404c8cb57aa733e50ad9dff30bab7c375fff53", func := "creel/creellaw04.DiskCrash", spec := "diskCrash", inPlace := ["maps.clone"], unfollowed := true, recurses := true, apart := false }
def DiskCrashSaid : Prop := diskCrashRow.holds Try.pinned (OpenSpec.ofChange diskCrashSpec)

/-- ITS FALSE NEIGHBOUR: 'it returns false'. Refute it at one input. -/
def diskCrashWrong : ChangeSpec := { name := "diskCrash", fn := fun _ => fun
  | [d1, d2, d3, d4] => { results := [.lit (.bool false)], args := [d1, d2, d3, d4] }
  | _ => none }
def DiskCrashWrongFalsely : Prop := diskCrashRow.holds Try.pinned (OpenSpec.ofChange diskCrashWrong)

/-- 'creellaw04.DiskClone': WHATEVER THE INPUT: true; the input reads as it did. -/
def diskCloneSpec : ChangeSpec := { name := "diskClone", fn := fun _ => fun
  | [d1, d2, d3, d4] => { results := [.lit (.bool true)], args := [d1, d2, d3, d4] }
  | _ => none }
def diskCloneRow : OpenClaim := { program := "ytohoimokfgfceaa", sum := "e8c26342db14896ca7dbbc8817404c8cb57aa733e50ad9dff30bab7c375fff53", func := "creel/creellaw04.DiskClone", spec := "diskClone", inPlace := ["maps.clone"], unfollowed := true, recurses := true, apart := false }
def DiskCloneSaid : Prop := diskCloneRow.holds Try.pinned (OpenSpec.ofChange diskCloneSpec)

/-- ITS FALSE NEIGHBOUR: 'it returns false'. Refute it at one input. -/
def diskCloneWrong : ChangeSpec := { name := "diskClone", fn := fun _ => fun
  | [d1, d2, d3, d4] => { results := [.lit (.bool false)], args := [d1, d2, d3, d4] }
  | _ => none }
def DiskCloneWrongFalsely : Prop := diskCloneRow.holds Try.pinned (OpenSpec.ofChange diskCloneWrong)

/-- 'creellaw05.PlaceTwice': WHATEVER THE INPUT: true; the input reads as it did. -/
def placeTwiceSpec : ChangeSpec := { name := "placeTwice", fn := fun _ => fun
  | [d1, d2, d3] => { results := [.lit (.bool true)], args := [d1, d2, d3] }
  | _ => none }
def placeTwiceRow : OpenClaim := { program := "ytohoimokfgfceaa", sum := "e8c26342db14896ca7dbbc8817404c8cb57aa733e50ad9dff30bab7c375fff53", func := "creel/creellaw05.PlaceTwice", spec := "placeTwice", inPlace := ["maps.clone"], unfollowed := true, recurses := true, apart := false }
def PlaceTwiceSaid : Prop := placeTwiceRow.holds Try.pinned (OpenSpec.ofChange placeTwiceSpec)

/-- ITS FALSE NEIGHBOUR: 'it returns false'. Refute it at one input. -/
def placeTwiceWrong : ChangeSpec := { name := "placeTwice", fn := fun _ => fun
  | [d1, d2, d3] => { results := [.lit (.bool false)], args := [d1, d2, d3] }
  | _ => none }
def PlaceTwiceWrongFalsely : Prop := placeTwiceRow.holds Try.pinned (OpenSpec.ofChange placeTwiceWrong)

/-- 'creellaw05.PlacePlays': WHATEVER THE INPUT: true; the input reads as it did. -/
def placePlaysSpec : ChangeSpec := { name := "placePlays", fn := fun _ => fun
  | [d1, d2, d3] => { results := [.lit (.bool true)], args := [d1, d2, d3] }
  | _ => none }
def placePlaysRow : OpenClaim := { program := "ytohoimokfgfceaa", sum := "e8c26342db14896ca7dbbc8817404c8cb57aa733e50ad9dff30bab7c375fff53", func := "creel/creellaw05.PlacePlays", spec := "placePlays", inPlace := ["maps.clone"], unfollowed := true, recurses := true, apart := false }
def PlacePlaysSaid : Prop := placePlaysRow.holds Try.pinned (OpenSpec.ofChange placePlaysSpec)

/-- ITS FALSE NEIGHBOUR: 'it returns false'. Refute it at one input. -/
def placePlaysWrong : ChangeSpec := { name := "placePlays", fn := fun _ => fun
  | [d1, d2, d3] => { results := [.lit (.bool false)], args := [d1, d2, d3] }
  | _ => none }
def PlacePlaysWrongFalsely : Prop := placePlaysRow.holds Try.pinned (OpenSpec.ofChange placePlaysWrong)

/-- 'creellaw05.PlaceGrows': WHATEVER THE INPUT: true; the input reads as it did. -/
def placeGrowsSpec : ChangeSpec := { name := "placeGrows", fn := fun _ => fun
  | [d1, d2, d3, d4, d5, d6] => { results := [.lit (.bool true)], args := [d1, d2, d3, d4, d5, d6] }
  | _ => none }
def placeGrowsRow : OpenClaim := { program := "ytohoimokfgfceaa", sum := "e8c26342db14896ca7dbbc8817404c8cb57aa733e50ad9dff30bab7c375fff53", func := "creel/creellaw05.PlaceGrows", spec := "placeGrows", inPlace := ["maps.clone"], unfollowed := true, recurses := true, apart := false }
def PlaceGrowsSaid : Prop := placeGrowsRow.holds Try.pinned (OpenSpec.ofChange placeGrowsSpec)

/-- ITS FALSE NEIGHBOUR: 'it returns false'. Refute it at one input. -/
def placeGrowsWrong : ChangeSpec := { name := "placeGrows", fn := fun _ => fun
  | [d1, d2, d3, d4, d5, d6] => { results := [.lit (.bool false)], args := [d1, d2, d3, d4, d5, d6] }
  | _ => none }
def PlaceGrowsWrongFalsely : Prop := placeGrowsRow.holds Try.pinned (OpenSpec.ofChange placeGrowsWrong)

/-- 'creellaw13.RunWrites': WHATEVER THE INPUT: true; the input reads as it did. -/
def runWritesSpec : ChangeSpec := { name := "runWrites", fn := fun _ => fun
  | [d1, d2, d3, d4, d5] => { results := [.lit (.bool true)], args := [d1, d2, d3, d4, d5] }
  | _ => none }
def runWritesRow : OpenClaim := { program := "ytohoimokfgfceaa", sum := "e8c26342db14896ca7dbbc8817404c8cb57aa733e50ad9dff30bab7c375fff53", func := "creel/creellaw13.RunWrites", spec := "runWrites", inPlace := ["internal/bytealg.Compare", "maps.clone"], recurses := true, apart := false }
def RunWritesSaid : Prop := runWritesRow.holds Try.pinned (OpenSpec.ofChange runWritesSpec)

/-- ITS FALSE NEIGHBOUR: 'it returns false'. Refute it at one input. -/
def runWritesWrong : ChangeSpec := { name := "runWrites", fn := fun _ => fun
  | [d1, d2, d3, d4, d5] => { results := [.lit (.bool false)], args := [d1, d2, d3, d4, d5] }
  | _ => none }
def RunWritesWrongFalsely : Prop := runWritesRow.holds Try.pinned (OpenSpec.ofChange runWritesWrong)

/-- 'creellaw13.RunAtOnce': WHATEVER THE INPUT: true; the input reads as it did. -/
def runAtOnceSpec : ChangeSpec := { name := "runAtOnce", fn := fun _ => fun
  | [d1, d2, d3, d4] => { results := [.lit (.bool true)], args := [d1, d2, d3, d4] }
  | _ => none }
def runAtOnceRow : OpenClaim := { program := "ytohoimokfgfceaa", sum := "e8c26342db14896ca7dbbc8817404c8cb57aa733e50ad9dff30bab7c375fff53", func := "creel/creellaw13.RunAtOnce", spec := "runAtOnce", inPlace := ["internal/bytealg.Compare", "maps.clone"], recurses := true, apart := false }
def RunAtOnceSaid : Prop := runAtOnceRow.holds Try.pinned (OpenSpec.ofChange runAtOnceSpec)

/-- ITS FALSE NEIGHBOUR: 'it returns false'. Refute it at one input. -/
def runAtOnceWrong : ChangeSpec := { name := "runAtOnce", fn := fun _ => fun
  | [d1, d2, d3, d4] => { results := [.lit (.bool false)], args := [d1, d2, d3, d4] }
  | _ => none }
def RunAtOnceWrongFalsely : Prop := runAtOnceRow.holds Try.pinned (OpenSpec.ofChange runAtOnceWrong)

/-- 'creellaw05.PlaceAtOnce': WHATEVER THE INPUT: true; the input reads as it did. -/
def placeAtOnceSpec : ChangeSpec := { name := "placeAtOnce", fn := fun _ => fun
  | [d1, d2, d3, d4, d5, d6] => { results := [.lit (.bool true)], args := [d1, d2, d3, d4, d5, d6] }
  | _ => none }
def placeAtOnceRow : OpenClaim := { program := "ytohoimokfgfceaa", sum := "e8c26342db14896ca7dbbc8817404c8cb57aa733e50ad9dff30bab7c375fff53", func := "creel/creellaw05.PlaceAtOnce", spec := "placeAtOnce", inPlace := ["maps.clone"], unfollowed := true, recurses := true, apart := false }
def PlaceAtOnceSaid : Prop := placeAtOnceRow.holds Try.pinned (OpenSpec.ofChange placeAtOnceSpec)

/-- ITS FALSE NEIGHBOUR: 'it returns false'. Refute it at one input. -/
def placeAtOnceWrong : ChangeSpec := { name := "placeAtOnce", fn := fun _ => fun
  | [d1, d2, d3, d4, d5, d6] => { results := [.lit (.bool false)], args := [d1, d2, d3, d4, d5, d6] }
  | _ => none }
def PlaceAtOnceWrongFalsely : Prop := placeAtOnceRow.holds Try.pinned (OpenSpec.ofChange placeAtOnceWrong)

/-- 'creellaw05.PlaceDrops': WHATEVER THE INPUT: true; the input reads as it did. -/
def placeDropsSpec : ChangeSpec := { name := "placeDrops", fn := fun _ => fun
  | [d1, d2, d3, d4] => { results := [.lit (.bool true)], args := [d1, d2, d3, d4] }
  | _ => none }
def placeDropsRow : OpenClaim := { program := "ytohoimokfgfceaa", sum := "e8c26342db14896ca7dbbc8817404c8cb57aa733e50ad9dff30bab7c375fff53", func := "creel/creellaw05.PlaceDrops", spec := "placeDrops", inPlace := ["maps.clone"], unfollowed := true, recurses := true, apart := false }
def PlaceDropsSaid : Prop := placeDropsRow.holds Try.pinned (OpenSpec.ofChange placeDropsSpec)

/-- ITS FALSE NEIGHBOUR: 'it returns false'. Refute it at one input. -/
def placeDropsWrong : ChangeSpec := { name := "placeDrops", fn := fun _ => fun
  | [d1, d2, d3, d4] => { results := [.lit (.bool false)], args := [d1, d2, d3, d4] }
  | _ => none }
def PlaceDropsWrongFalsely : Prop := placeDropsRow.holds Try.pinned (OpenSpec.ofChange placeDropsWrong)

/-- 'creellaw06.JournalTwice': WHATEVER THE INPUT: true; the input reads as it did. -/
def journalTwiceSpec : ChangeSpec := { name := "journalTwice", fn := fun _ => fun
  | [d1, d2] => { results := [.lit (.bool true)], args := [d1, d2] }
  | _ => none }
def journalTwiceRow : OpenClaim := { program := "ytohoimokfgfceaa", sum := "e8c26342db14896ca7dbbc8817404c8cb57aa733e50ad9dff30bab7c375fff53", func := "creel/creellaw06.JournalTwice", spec := "journalTwice", inPlace := ["maps.clone"], unfollowed := true, recurses := true, apart := false }
def JournalTwiceSaid : Prop := journalTwiceRow.holds Try.pinned (OpenSpec.ofChange journalTwiceSpec)

/-- ITS FALSE NEIGHBOUR: 'it returns false'. Refute it at one input. -/
def journalTwiceWrong : ChangeSpec := { name := "journalTwice", fn := fun _ => fun
  | [d1, d2] => { results := [.lit (.bool false)], args := [d1, d2] }
  | _ => none }
def JournalTwiceWrongFalsely : Prop := journalTwiceRow.holds Try.pinned (OpenSpec.ofChange journalTwiceWrong)

/-- 'creellaw06.JournalLong': WHATEVER THE INPUT: true; the input reads as it did. -/
def journalLongSpec : ChangeSpec := { name := "journalLong", fn := fun _ => fun
  | [d] => { results := [.lit (.bool true)], args := [d] }
  | _ => none }
def journalLongRow : OpenClaim := { program := "ytohoimokfgfceaa", sum := "e8c26342db14896ca7dbbc8817404c8cb57aa733e50ad9dff30bab7c375fff53", func := "creel/creellaw06.JournalLong", spec := "journalLong", inPlace := ["maps.clone"], unfollowed := true, recurses := true, apart := false }
def JournalLongSaid : Prop := journalLongRow.holds Try.pinned (OpenSpec.ofChange journalLongSpec)

/-- ITS FALSE NEIGHBOUR: 'it returns false'. Refute it at one input. -/
def journalLongWrong : ChangeSpec := { name := "journalLong", fn := fun _ => fun
  | [d] => { results := [.lit (.bool false)], args := [d] }
  | _ => none }
def JournalLongWrongFalsely : Prop := journalLongRow.holds Try.pinned (OpenSpec.ofChange journalLongWrong)

/-- 'creellaw06.JournalBegins': WHATEVER THE INPUT: true; the input reads as it did. -/
def journalBeginsSpec : ChangeSpec := { name := "journalBegins", fn := fun _ => fun
  | [d1, d2, d3] => { results := [.lit (.bool true)], args := [d1, d2, d3] }
  | _ => none }
def journalBeginsRow : OpenClaim := { program := "ytohoimokfgfceaa", sum := "e8c26342db14896ca7dbbc8817404c8cb57aa733e50ad9dff30bab7c375fff53", func := "creel/creellaw06.JournalBegins", spec := "journalBegins", inPlace := ["maps.clone"], unfollowed := true, recurses := true, apart := false }
def JournalBeginsSaid : Prop := journalBeginsRow.holds Try.pinned (OpenSpec.ofChange journalBeginsSpec)

/-- ITS FALSE NEIGHBOUR: 'it returns false'. Refute it at one input. -/
def journalBeginsWrong : ChangeSpec := { name := "journalBegins", fn := fun _ => fun
  | [d1, d2, d3] => { results := [.lit (.bool false)], args := [d1, d2, d3] }
  | _ => none }
def JournalBeginsWrongFalsely : Prop := journalBeginsRow.holds Try.pinned (OpenSpec.ofChange journalBeginsWrong)

/-- 'creellaw06.JournalKeeps': WHATEVER THE INPUT: true; the input reads as it did. -/
def journalKeepsSpec : ChangeSpec := { name := "journalKeeps", fn := fun _ => fun
  | [d1, d2] => { results := [.lit (.bool true)], args := [d1, d2] }
  | _ => none }
def journalKeepsRow : OpenClaim := { program := "ytohoimokfgfceaa", sum := "e8c26342db14896ca7dbbc8817404c8cb57aa733e50ad9dff30bab7c375fff53", func := "creel/creellaw06.JournalKeeps", spec := "journalKeeps", inPlace := ["maps.clone"], unfollowed := true, recurses := true, apart := false }
def JournalKeepsSaid : Prop := journalKeepsRow.holds Try.pinned (OpenSpec.ofChange journalKeepsSpec)

/-- ITS FALSE NEIGHBOUR: 'it returns false'. Refute it at one input. -/
def journalKeepsWrong : ChangeSpec := { name := "journalKeeps", fn := fun _ => fun
  | [d1, d2] => { results := [.lit (.bool false)], args := [d1, d2] }
  | _ => none }
def JournalKeepsWrongFalsely : Prop := journalKeepsRow.holds Try.pinned (OpenSpec.ofChange journalKeepsWrong)

/- THE SECOND FORM. 'bulk': how many values and letters a reading holds, each counted each time it is reached (what is shared counts as often as it is met; a slice's spare places count too). A statement '..UptoSaid' is the law's where the arguments, and the package variables that the reading takes, are together of bulk at most 1048576: NARROWER than '..Said'. Prove '..Said' where nothing that the law and all that it calls make is longer than what came in: it says more and counts as full. Else prove '..UptoSaid'. A law counts once. -/
mutual
def uptoBulk {H : Type} : DataW H → Nat
  | .lit (.string bytes) => bytes.length + 1
  | .lit _ => 1
  | .nil => 1
  | .ptr d => uptoBulk d + 1
  | .slice elems spare => uptoBulkAll elems + uptoBulkAll spare + 1
  | .agg parts => uptoBulkAll parts + 1
  | .iface _ d => uptoBulk d + 1
  | .map entries => uptoBulkEntries entries + 1
  | .held _ => 1
def uptoBulkAll {H : Type} : List (DataW H) → Nat
  | [] => 0
  | d :: r => uptoBulk d + uptoBulkAll r
def uptoBulkEntries {H : Type} : List (Lit × DataW H) → Nat
  | [] => 0
  | x :: r => uptoBulkEntry x + uptoBulkEntries r
def uptoBulkEntry {H : Type} : Lit × DataW H → Nat
  | (.string bytes, d) => bytes.length + uptoBulk d + 1
  | (_, d) => uptoBulk d + 1
 end
def uptoSmall : (H : Type) → List (DataW H) → Bool := fun _ ds => decide (uptoBulkAll ds ≤ 1048576)
def OpenSpec.upto (s : _root_.Go.ChangeSpec) : _root_.Go.OpenSpec := { _root_.Go.OpenSpec.ofChange s with cond := some uptoSmall }

/-- 'creellaw12.TreePlays', WHERE WHAT IT READS IS OF BULK AT MOST 1048576: true; the input reads as it did. -/
def treePlaysUptoRow : OpenClaim := { program := "ytohoimokfgfceaa", sum := "e8c26342db14896ca7dbbc8817404c8cb57aa733e50ad9dff30bab7c375fff53", func := "creel/creellaw12.TreePlays", spec := "treePlays", inPlace := ["internal/bytealg.Compare"], unfollowed := true, recurses := true, apart := false, narrowed := true }
def TreePlaysUptoSaid : Prop := treePlaysUptoRow.holds Try.pinned (OpenSpec.upto treePlaysSpec)

/-- 'creellaw12.TreeMerges', WHERE WHAT IT READS IS OF BULK AT MOST 1048576: true; the input reads as it did. -/
def treeMergesUptoRow : OpenClaim := { program := "ytohoimokfgfceaa", sum := "e8c26342db14896ca7dbbc8817404c8cb57aa733e50ad9dff30bab7c375fff53", func := "creel/creellaw12.TreeMerges", spec := "treeMerges", inPlace := ["internal/bytealg.Compare"], unfollowed := true, recurses := true, apart := false, narrowed := true }
def TreeMergesUptoSaid : Prop := treeMergesUptoRow.holds Try.pinned (OpenSpec.upto treeMergesSpec)

/-- 'creellaw12.TreeSorts', WHERE WHAT IT READS IS OF BULK AT MOST 1048576: true; the input reads as it did. -/
def treeSortsUptoRow : OpenClaim := { program := "ytohoimokfgfceaa", sum := "e8c26342db14896ca7dbbc8817404c8cb57aa733e50ad9dff30bab7c375fff53", func := "creel/creellaw12.TreeSorts", spec := "treeSorts", inPlace := ["internal/bytealg.Compare"], unfollowed := true, recurses := true, apart := false, narrowed := true }
def TreeSortsUptoSaid : Prop := treeSortsUptoRow.holds Try.pinned (OpenSpec.upto treeSortsSpec)

/-- 'creellaw12.TreeGames', WHERE WHAT IT READS IS OF BULK AT MOST 1048576: true; the input reads as it did. -/
def treeGamesUptoRow : OpenClaim := { program := "ytohoimokfgfceaa", sum := "e8c26342db14896ca7dbbc8817404c8cb57aa733e50ad9dff30bab7c375fff53", func := "creel/creellaw12.TreeGames", spec := "treeGames", inPlace := ["internal/bytealg.Compare"], unfollowed := true, recurses := true, apart := false, narrowed := true }
def TreeGamesUptoSaid : Prop := treeGamesUptoRow.holds Try.pinned (OpenSpec.upto treeGamesSpec)

/-- 'creellaw12.TreeNil', WHERE WHAT IT READS IS OF BULK AT MOST 1048576: true; the input reads as it did. -/
def treeNilUptoRow : OpenClaim := { program := "ytohoimokfgfceaa", sum := "e8c26342db14896ca7dbbc8817404c8cb57aa733e50ad9dff30bab7c375fff53", func := "creel/creellaw12.TreeNil", spec := "treeNil", inPlace := ["internal/bytealg.Compare"], unfollowed := true, recurses := true, apart := false, narrowed := true }
def TreeNilUptoSaid : Prop := treeNilUptoRow.holds Try.pinned (OpenSpec.upto treeNilSpec)

/-- 'creellaw12.TreeLeast', WHERE WHAT IT READS IS OF BULK AT MOST 1048576: true; the input reads as it did. -/
def treeLeastUptoRow : OpenClaim := { program := "ytohoimokfgfceaa", sum := "e8c26342db14896ca7dbbc8817404c8cb57aa733e50ad9dff30bab7c375fff53", func := "creel/creellaw12.TreeLeast", spec := "treeLeast", inPlace := ["internal/bytealg.Compare"], unfollowed := true, recurses := true, apart := false, narrowed := true }
def TreeLeastUptoSaid : Prop := treeLeastUptoRow.holds Try.pinned (OpenSpec.upto treeLeastSpec)

/-- 'creellaw12.TreeAgain', WHERE WHAT IT READS IS OF BULK AT MOST 1048576: true; the input reads as it did. -/
def treeAgainUptoRow : OpenClaim := { program := "ytohoimokfgfceaa", sum := "e8c26342db14896ca7dbbc8817404c8cb57aa733e50ad9dff30bab7c375fff53", func := "creel/creellaw12.TreeAgain", spec := "treeAgain", inPlace := ["internal/bytealg.Compare"], unfollowed := true, recurses := true, apart := false, narrowed := true }
def TreeAgainUptoSaid : Prop := treeAgainUptoRow.holds Try.pinned (OpenSpec.upto treeAgainSpec)

/-- 'creellaw13.RunNil', WHERE WHAT IT READS IS OF BULK AT MOST 1048576: true; the input reads as it did. -/
def runNilUptoRow : OpenClaim := { program := "ytohoimokfgfceaa", sum := "e8c26342db14896ca7dbbc8817404c8cb57aa733e50ad9dff30bab7c375fff53", func := "creel/creellaw13.RunNil", spec := "runNil", inPlace := ["internal/bytealg.Compare", "maps.clone"], apart := false, narrowed := true }
def RunNilUptoSaid : Prop := runNilUptoRow.holds Try.pinned (OpenSpec.upto runNilSpec)

/-- 'creellaw13.RunBack', WHERE WHAT IT READS IS OF BULK AT MOST 1048576: true; the input reads as it did. -/
def runBackUptoRow : OpenClaim := { program := "ytohoimokfgfceaa", sum := "e8c26342db14896ca7dbbc8817404c8cb57aa733e50ad9dff30bab7c375fff53", func := "creel/creellaw13.RunBack", spec := "runBack", inPlace := ["internal/bytealg.Compare", "maps.clone"], unfollowed := true, recurses := true, apart := false, narrowed := true }
def RunBackUptoSaid : Prop := runBackUptoRow.holds Try.pinned (OpenSpec.upto runBackSpec)

/-- 'creellaw13.RunTells', WHERE WHAT IT READS IS OF BULK AT MOST 1048576: true; the input reads as it did. -/
def runTellsUptoRow : OpenClaim := { program := "ytohoimokfgfceaa", sum := "e8c26342db14896ca7dbbc8817404c8cb57aa733e50ad9dff30bab7c375fff53", func := "creel/creellaw13.RunTells", spec := "runTells", inPlace := ["internal/bytealg.Compare", "maps.clone"], unfollowed := true, recurses := true, apart := false, narrowed := true }
def RunTellsUptoSaid : Prop := runTellsUptoRow.holds Try.pinned (OpenSpec.upto runTellsSpec)

/-- 'creellaw04.DiskDown', WHERE WHAT IT READS IS OF BULK AT MOST 1048576: true; the input reads as it did. -/
def diskDownUptoRow : OpenClaim := { program := "ytohoimokfgfceaa", sum := "e8c26342db14896ca7dbbc8817404c8cb57aa733e50ad9dff30bab7c375fff53", func := "creel/creellaw04.DiskDown", spec := "diskDown", inPlace := ["maps.clone"], recurses := true, apart := false, narrowed := true }
def DiskDownUptoSaid : Prop := diskDownUptoRow.holds Try.pinned (OpenSpec.upto diskDownSpec)

/-- 'creellaw04.DiskRoom', WHERE WHAT IT READS IS OF BULK AT MOST 1048576: true; the input reads as it did. -/
def diskRoomUptoRow : OpenClaim := { program := "ytohoimokfgfceaa", sum := "e8c26342db14896ca7dbbc8817404c8cb57aa733e50ad9dff30bab7c375fff53", func := "creel/creellaw04.DiskRoom", spec := "diskRoom", inPlace := ["maps.clone"], recurses := true, apart := false, narrowed := true }
def DiskRoomUptoSaid : Prop := diskRoomUptoRow.holds Try.pinned (OpenSpec.upto diskRoomSpec)

/-- 'creellaw04.DiskNames', WHERE WHAT IT READS IS OF BULK AT MOST 1048576: true; the input reads as it did. -/
def diskNamesUptoRow : OpenClaim := { program := "ytohoimokfgfceaa", sum := "e8c26342db14896ca7dbbc8817404c8cb57aa733e50ad9dff30bab7c375fff53", func := "creel/creellaw04.DiskNames", spec := "diskNames", inPlace := ["maps.clone"], recurses := true, apart := false, narrowed := true }
def DiskNamesUptoSaid : Prop := diskNamesUptoRow.holds Try.pinned (OpenSpec.upto diskNamesSpec)

/-- 'creellaw04.DiskPlays', WHERE WHAT IT READS IS OF BULK AT MOST 1048576: true; the input reads as it did. -/
def diskPlaysUptoRow : OpenClaim := { program := "ytohoimokfgfceaa", sum := "e8c26342db14896ca7dbbc8817404c8cb57aa733e50ad9dff30bab7c375fff53", func := "creel/creellaw04.DiskPlays", spec := "diskPlays", inPlace := ["maps.clone"], unfollowed := true, recurses := true, apart := false, narrowed := true }
def DiskPlaysUptoSaid : Prop := diskPlaysUptoRow.holds Try.pinned (OpenSpec.upto diskPlaysSpec)

/-- 'creellaw04.DiskKept', WHERE WHAT IT READS IS OF BULK AT MOST 1048576: true; the input reads as it did. -/
def diskKeptUptoRow : OpenClaim := { program := "ytohoimokfgfceaa", sum := "e8c26342db14896ca7dbbc8817404c8cb57aa733e50ad9dff30bab7c375fff53", func := "creel/creellaw04.DiskKept", spec := "diskKept", inPlace := ["maps.clone"], unfollowed := true, recurses := true, apart := false, narrowed := true }
def DiskKeptUptoSaid : Prop := diskKeptUptoRow.holds Try.pinned (OpenSpec.upto diskKeptSpec)

/-- 'creellaw04.DiskCrash', WHERE WHAT IT READS IS OF BULK AT MOST 1048576: true; the input reads as it did. -/
def diskCrashUptoRow : OpenClaim := { program := "ytohoimokfgfceaa", sum := "e8c26342db14896ca7dbbc8817404c8cb57aa733e50ad9dff30bab7c375fff53", func := "creel/creellaw04.DiskCrash", spec := "diskCrash", inPlace := ["maps.clone"], unfollowed := true, recurses := true, apart := false, narrowed := true }
def DiskCrashUptoSaid : Prop := diskCrashUptoRow.holds Try.pinned (OpenSpec.upto diskCrashSpec)

/-- 'creellaw04.DiskClone', WHERE WHAT IT READS IS OF BULK AT MOST 1048576: true; the input reads as it did. -/
def diskCloneUptoRow : OpenClaim := { program := "ytohoimokfgfceaa", sum := "e8c26342db14896ca7dbbc8817404c8cb57aa733e50ad9dff30bab7c375fff53", func := "creel/creellaw04.DiskClone", spec := "diskClone", inPlace := ["maps.clone"], unfollowed := true, recurses := true, apart := false, narrowed := true }
def DiskCloneUptoSaid : Prop := diskCloneUptoRow.holds Try.pinned (OpenSpec.upto diskCloneSpec)

/-- 'creellaw05.PlaceTwice', WHERE WHAT IT READS IS OF BULK AT MOST 1048576: true; the input reads as it did. -/
def placeTwiceUptoRow : OpenClaim := { program := "ytohoimokfgfceaa", sum := "e8c26342db14896ca7dbbc8817404c8cb57aa733e50ad9dff30bab7c375fff53", func := "creel/creellaw05.PlaceTwice", spec := "placeTwice", inPlace := ["maps.clone"], unfollowed := true, recurses := true, apart := false, narrowed := true }
def PlaceTwiceUptoSaid : Prop := placeTwiceUptoRow.holds Try.pinned (OpenSpec.upto placeTwiceSpec)

/-- 'creellaw05.PlacePlays', WHERE WHAT IT READS IS OF BULK AT MOST 1048576: true; the input reads as it did. -/
def placePlaysUptoRow : OpenClaim := { program := "ytohoimokfgfceaa", sum := "e8c26342db14896ca7dbbc8817404c8cb57aa733e50ad9dff30bab7c375fff53", func := "creel/creellaw05.PlacePlays", spec := "placePlays", inPlace := ["maps.clone"], unfollowed := true, recurses := true, apart := false, narrowed := true }
def PlacePlaysUptoSaid : Prop := placePlaysUptoRow.holds Try.pinned (OpenSpec.upto placePlaysSpec)

/-- 'creellaw05.PlaceGrows', WHERE WHAT IT READS IS OF BULK AT MOST 1048576: true; the input reads as it did. -/
def placeGrowsUptoRow : OpenClaim := { program := "ytohoimokfgfceaa", sum := "e8c26342db14896ca7dbbc8817404c8cb57aa733e50ad9dff30bab7c375fff53", func := "creel/creellaw05.PlaceGrows", spec := "placeGrows", inPlace := ["maps.clone"], unfollowed := true, recurses := true, apart := false, narrowed := true }
def PlaceGrowsUptoSaid : Prop := placeGrowsUptoRow.holds Try.pinned (OpenSpec.upto placeGrowsSpec)

/-- 'creellaw13.RunWrites', WHERE WHAT IT READS IS OF BULK AT MOST 1048576: true; the input reads as it did. -/
def runWritesUptoRow : OpenClaim := { program := "ytohoimokfgfceaa", sum := "e8c26342db14896ca7dbbc8817404c8cb57aa733e50ad9dff30bab7c375fff53", func := "creel/creellaw13.RunWrites", spec := "runWrites", inPlace := ["internal/bytealg.Compare", "maps.clone"], recurses := true, apart := false, narrowed := true }
def RunWritesUptoSaid : Prop := runWritesUptoRow.holds Try.pinned (OpenSpec.upto runWritesSpec)

/-- 'creellaw13.RunAtOnce', WHERE WHAT IT READS IS OF BULK AT MOST 1048576: true; the input reads as it did. -/
def runAtOnceUptoRow : OpenClaim := { program := "ytohoimokfgfceaa", sum := "e8c26342db14896ca7dbbc8817404c8cb57aa733e50ad9dff30bab7c375fff53", func := "creel/creellaw13.RunAtOnce", spec := "runAtOnce", inPlace := ["internal/bytealg.Compare", "maps.clone"], recurses := true, apart := false, narrowed := true }
def RunAtOnceUptoSaid : Prop := runAtOnceUptoRow.holds Try.pinned (OpenSpec.upto runAtOnceSpec)

/-- 'creellaw05.PlaceAtOnce', WHERE WHAT IT READS IS OF BULK AT MOST 1048576: true; the input reads as it did. -/
def placeAtOnceUptoRow : OpenClaim := { program := "ytohoimokfgfceaa", sum := "e8c26342db14896ca7dbbc8817404c8cb57aa733e50ad9dff30bab7c375fff53", func := "creel/creellaw05.PlaceAtOnce", spec := "placeAtOnce", inPlace := ["maps.clone"], unfollowed := true, recurses := true, apart := false, narrowed := true }
def PlaceAtOnceUptoSaid : Prop := placeAtOnceUptoRow.holds Try.pinned (OpenSpec.upto placeAtOnceSpec)

/-- 'creellaw05.PlaceDrops', WHERE WHAT IT READS IS OF BULK AT MOST 1048576: true; the input reads as it did. -/
def placeDropsUptoRow : OpenClaim := { program := "ytohoimokfgfceaa", sum := "e8c26342db14896ca7dbbc8817404c8cb57aa733e50ad9dff30bab7c375fff53", func := "creel/creellaw05.PlaceDrops", spec := "placeDrops", inPlace := ["maps.clone"], unfollowed := true, recurses := true, apart := false, narrowed := true }
def PlaceDropsUptoSaid : Prop := placeDropsUptoRow.holds Try.pinned (OpenSpec.upto placeDropsSpec)

/-- 'creellaw06.JournalTwice', WHERE WHAT IT READS IS OF BULK AT MOST 1048576: true; the input reads as it did. -/
def journalTwiceUptoRow : OpenClaim := { program := "ytohoimokfgfceaa", sum := "e8c26342db14896ca7dbbc8817404c8cb57aa733e50ad9dff30bab7c375fff53", func := "creel/creellaw06.JournalTwice", spec := "journalTwice", inPlace := ["maps.clone"], unfollowed := true, recurses := true, apart := false, narrowed := true }
def JournalTwiceUptoSaid : Prop := journalTwiceUptoRow.holds Try.pinned (OpenSpec.upto journalTwiceSpec)

/-- 'creellaw06.JournalLong', WHERE WHAT IT READS IS OF BULK AT MOST 1048576: true; the input reads as it did. -/
def journalLongUptoRow : OpenClaim := { program := "ytohoimokfgfceaa", sum := "e8c26342db14896ca7dbbc8817404c8cb57aa733e50ad9dff30bab7c375fff53", func := "creel/creellaw06.JournalLong", spec := "journalLong", inPlace := ["maps.clone"], unfollowed := true, recurses := true, apart := false, narrowed := true }
def JournalLongUptoSaid : Prop := journalLongUptoRow.holds Try.pinned (OpenSpec.upto journalLongSpec)

/-- 'creellaw06.JournalBegins', WHERE WHAT IT READS IS OF BULK AT MOST 1048576: true; the input reads as it did. -/
def journalBeginsUptoRow : OpenClaim := { program := "ytohoimokfgfceaa", sum := "e8c26342db14896ca7dbbc8817404c8cb57aa733e50ad9dff30bab7c375fff53", func := "creel/creellaw06.JournalBegins", spec := "journalBegins", inPlace := ["maps.clone"], unfollowed := true, recurses := true, apart := false, narrowed := true }
def JournalBeginsUptoSaid : Prop := journalBeginsUptoRow.holds Try.pinned (OpenSpec.upto journalBeginsSpec)

/-- 'creellaw06.JournalKeeps', WHERE WHAT IT READS IS OF BULK AT MOST 1048576: true; the input reads as it did. -/
def journalKeepsUptoRow : OpenClaim := { program := "ytohoimokfgfceaa", sum := "e8c26342db14896ca7dbbc8817404c8cb57aa733e50ad9dff30bab7c375fff53", func := "creel/creellaw06.JournalKeeps", spec := "journalKeeps", inPlace := ["maps.clone"], unfollowed := true, recurses := true, apart := false, narrowed := true }
def JournalKeepsUptoSaid : Prop := journalKeepsUptoRow.holds Try.pinned (OpenSpec.upto journalKeepsSpec)

end Rows
end Go.Proofs.Ytohoimokfgfceaa
