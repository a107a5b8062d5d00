/-
  THE MODULES THAT THE PROOF STANDS ON, AND A FEW SHORT NAMES. No condition.
-/
import Derived.Test.YtlibhkehebioeaaGreatDoorRows
import Derived.WalkKit
import Derived.WalkSpells
import Derived.WalkLawsBesides
import Derived.ProofKit
import Derived.BigQuiet
import Derived.Lib.Hide
import Derived.Lib.UnsafeStr
import Derived.Maps.AppendAt
import Derived.Deep.AppendLies
import Derived.Laws.CopyOwn
import Derived.OneCell
import Derived.Deep.DeepCutAuto
import Derived.Deep.DeepFit
import Derived.Lib.AppendStr
import Derived.Laws.ResultCell
import Derived.Laws.Rows
import Derived.Deep.DeepAppendRoom
import Derived.Deep.RegionLaw
import Derived.WideAt
import Derived.WideShapes
import Derived.Maps.OwnSet
import Derived.Laws.BitsAllLaws
import Derived.Laws.BitsLemmas
import Derived.RowKit2
import Derived.Shelf.Small.Bits
import Derived.Shelf.Strconv.Atoi
import Derived.Shelf.Strconv.Itoa0
import Derived.Shelf.Strconv.Itoa1
import Derived.Shelf.LaysM
import Derived.Shelf.Strconv.Itoa2
import Derived.Shelf.Strconv.Itoa3
import Derived.Shelf.Strconv.AtoiErrFast
import Derived.Shelf.Strconv.ParseIntEmpty
import Derived.Shelf.Strconv.AtoiFail
import Derived.Shelf.Strconv.Clone
import Derived.Shelf.Strconv.SyntaxError
import Derived.Shelf.LaysC
import Derived.Shelf.Strconv.ToError
import Derived.Shelf.Strconv.AtoiErr
import Derived.Shelf.Strconv.ErrVar
import Derived.Shelf.Strconv.Lower
import Derived.Shelf.Strconv.ParseUint10
import Derived.Shelf.Strconv.ParseUint10Empty
import Derived.Shelf.Strconv.RangeError
import Derived.Shelf.Strconv.ParseUintEmpty
import Derived.Shelf.Strconv.ParseUint10b64
import Derived.Shelf.Strconv.ParseUint10b32
import Derived.Shelf.Strconv.ParseUint10b16
import Derived.Shelf.Strconv.ParseUint10b8
import Derived.Shelf.Sort.Plain
import Derived.Shelf.Slices.Turned
import Derived.Ground.Names2Prog
import Derived.Shelf.Slices.Clone
import Derived.Shelf.Slices.Delete
import Derived.Shelf.Slices.Cells
import Derived.Shelf.Slices.In.SortNone
import Derived.Shelf.Slices.Empties
import Derived.Ground.SlgnProg
import Derived.Shelf.SlicesE.Delete
import Derived.Shelf.SlicesE.Clone
import Derived.Test.YtlibhkehebioeaaGreatDoorProg
import Derived.Lib.AtoiBound
import Derived.Lib.LaidTab
import Derived.StillTailTactics
import Derived.Laws.EntriesVeiled
import Derived.ArgAppend
import Derived.Maps.RangeWalk
import Derived.Deep.MidRow
import Derived.Sort.OwnSorted
import Derived.BigRegion
import Derived.Deep.RegionHeld3
import Derived.RegionCalls
import Derived.Deep.CutBlock
import Derived.Carry
import Derived.ChangeVars
import Derived.ChangeSame
import Derived.OpenShut
import Derived.Deep.DeepHandedRow
import Derived.Lib.SmallJoins
import Derived.Deep.Slices
import Derived.Lib.QuietBelow
import Derived.Lib.ConvBytes
import Derived.Lib.AtoiErrMem
import Derived.Test.YtlibhkehebioeaaGreatDoorCards
import Derived.Test.YtlibhkehebioeaaGreatDoorTie
import Derived.Stop.LaidErr
import Derived.Deep.DeepLaidRun
namespace Go.Proofs.YtlibhkehebioeaaGreatDoor
open Go.RowKit
theorem exz {α:Sort _} (a:α):∃x,x=a:=⟨a,rfl⟩
theorem ltz {a b c:Nat} (h:a<b) (k:b≤c):a<c:=Nat.lt_of_lt_of_le h k
theorem lez {a b c:Nat} (h:a≤b) (k:b≤c):a≤c:=Nat.le_trans h k
theorem lrz (a:Nat):a≤a:=Nat.le_refl a
theorem lapz {α:Type _} {a b:List α}:(a++b).length=a.length+b.length:=List.length_append
theorem onz (w:World) (b:Nat) (e:TypeId) (s:Nat):w.ownsRow b e s (.slice none 0 0) 0 []:=World.ownsRow_nil w b e s
theorem aiz {a b:Prop} (h:a) (k:b):a∧b:=⟨h,k⟩
theorem hdz {p:Prop} (h:p):Hid p:=Lib.hid h
theorem zp1 {α:Type _} (l:List α) (i:Nat) (a:α):l.toArray.setIfInBounds i a=(l.set i a).toArray:=by simp
theorem zp2 {α:Type} {a b:α} {l:List α}:(a::l).set 0 b=b::l:=List.set_cons_zero
theorem zp3 {α:Type} {a b:α} {l:List α} {n:Nat}:(a::l).set (n+1) b=a::l.set n b:=List.set_cons_succ
end Go.Proofs.YtlibhkehebioeaaGreatDoor
