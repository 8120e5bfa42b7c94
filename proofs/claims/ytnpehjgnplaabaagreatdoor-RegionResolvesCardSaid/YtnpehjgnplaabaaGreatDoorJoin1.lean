/- Several texts of ours, joined. -/
import Derived.WalkKit
import Derived.Outline
import Derived.LoopTactic
import Derived.Lib.Hide
import Derived.WalkSpells
import Derived.WalkLawsBesides
import Derived.Lib.MinMax
import Derived.Laws.IdiomStrings
import Derived.Below
import Derived.Laws.OwnMore
import Derived.Deep.Draws
import Derived.Laws.Rows
import Derived.Deep.QuietTactic
import Derived.BigQuiet
import Derived.Deep.RegionHeld3
import Derived.Deep.DeepCutAuto
import Derived.Deep.DeepFit
import Derived.Deep.DeepMust
import Derived.Test.YtnpehjgnplaabaaGreatDoorRows
import Derived.ProofKit
import Derived.OpenShut
import Derived.ShutString
import Derived.ChangeOld
import Derived.SizedLaws
import Derived.Test.YtnpehjgnplaabaaGreatDoorCards
import Derived.Test.YtnpehjgnplaabaaGreatDoorTie
import Derived.LaidMore
import Derived.Lay
import Derived.SevenTiedAt
import Derived.Stop.Joined
import Derived.Deep.Slices
import Derived.Deep.Fields
import Derived.ChangeSame
import Derived.ChangeKeysEq
import Derived.Laws.StructEq
import Derived.IntWalk
import Derived.Deep.CutBlock
import Derived.Deep.AppendLies
import Derived.RangeFuncFrom
import Derived.Shelf.Small.Strs
import Derived.Shelf.Utf8.RuneCount
import Derived.Shelf.Strings.Search1
import Derived.Shelf.Strings.Search2
import Derived.Shelf.Strings.Search3
import Derived.Shelf.Strings.Cut
import Derived.Shelf.Strings.Count
import Derived.Shelf.LaysM
import Derived.Shelf.Strings.Shaped
import Derived.Shelf.Strings.LastIndex
import Derived.Shelf.Strings.LastIndexAll
import Derived.Shelf.Strings.Split
import Derived.Shelf.Strings.SplitShaped
import Derived.Shelf.Unicode.Decode
import Derived.Shelf.Strings.RuneCount
import Derived.Shelf.Strings.Explode
import Derived.Shelf.Unicode.DecodeSlow
import Derived.Shelf.Unicode.DecodeAny
import Derived.Shelf.Slices.Turned
import Derived.Ground.Names2Prog
import Derived.Shelf.Slices.ReverseS
import Derived.Shelf.Slices.Clone
import Derived.Shelf.Slices.Cells
import Derived.Ground.SlgnProg
import Derived.Shelf.SlicesE.Reverse
import Derived.Shelf.SlicesE.Clone
import Derived.Test.YtnpehjgnplaabaaGreatDoorProg
import Derived.RangeFuncNested
import Derived.RangeFuncBound
import Derived.RangeFuncCalls
import Derived.RangeFuncLeaves
import Derived.Shelf.Abstract
import Derived.Shelf.RegionOpen
import Derived.OwnWalkIn
import Derived.TacticsInMore
import Derived.LoopNIn
import Derived.LoopIn
import Derived.Lib.IndexLaws
import Derived.Lib.Split
import Derived.Lib.SplitLaws
import Derived.Lib.Join
import Derived.Maps.AppendAt
import Derived.Lib.LastIndexByte
import Derived.Lib.Bytealg
import Derived.Lib.EndianMore
import Derived.Laws.BitsAllLaws
import Derived.Deep.WholeRow
import Derived.Deep.MidRow
import Derived.Lib.AppendZerosOnto
import Derived.Lib.Overlaps
import Derived.Laws.CopyRow
import Derived.Test.YtnpehjgnplaabaaGreatDoorChecked
import Derived.Deep.RegionLaw
import Derived.Maps.OwnIn
import Derived.StillTailTactics
import Derived.RegionTactic
import Derived.BigRegion
import Derived.Lib.AppendZeros
import Derived.Stop.RegionWithIn
import Derived.Laws.EntriesVeiled
import Derived.StillTail
import Derived.StillTactics
import Derived.Maps.OwnSet
import Derived.RangeFuncRecord
import Derived.RangeFuncWrites
import Derived.Sort.BigQuietIn
import Derived.ArgAppend
set_option linter.unusedVariables false
set_option linter.unusedSimpArgs false
set_option maxRecDepth 100000
set_option maxHeartbeats 64000000
namespace Sw
open Go Go.RowKit
def Blk (w:World) (g:Nat) (t:TypeId) (cs:Array Value):Prop:=w.heap[g]? =some (.cells cs t (0,0))
section
variable {w w' a:World} {g:Nat} {t:TypeId} {cs:Array Value}
theorem Blk.lt (h:Blk w g t cs):g<w.heap.size:=(Array.getElem?_eq_some_iff.1 h).1
theorem Blk.cell (h:Blk w g t cs)(i:Nat):w.cell? ⟨g,i,none⟩=cs[i]? :=cell_of_row w g i cs t (0,0) h
theorem Blk.frozen (h:Blk w g t cs)(i:Nat):w.frozen? ⟨g,i,none⟩=false:=by
 unfold Blk at h;simp [World.frozen?,h]
theorem Blk.new (w:World)(t:TypeId)(cs:Array Value):Blk (w.alloc (.cells cs t)) w.heap.size t cs:=heap_alloc_new w _
theorem Blk.drew (h:Blk w g t cs):Blk w.drew g t cs:=h
theorem Blk.drewN (h:Blk w g t cs)(n:Nat):Blk (w.drewN n) g t cs:=h
theorem Blk.alloc (h:Blk w g t cs)(o:Obj):Blk (w.alloc o) g t cs:=(Below.heap_alloc w o g h.lt).trans h
theorem Blk.put (h:Blk w g t cs)(i:Nat)(u:Value):Blk (w.setCell ⟨g,i,none⟩ u) g t (cs.setIfInBounds i u):=by
 unfold Blk at h⊢;simp [World.setCell,Array.getElem?_modify,h]
theorem Blk.far (h:Blk w g t cs){p:Addr}(hp:g≠p.block)(u:Value):Blk (w.setCell p u) g t cs:=(Below.heap_setCell w p u g hp).trans h
theorem Blk.below {B:Nat}(h:Blk w g t cs)(hb:Below B w w')(hg:g<B):Blk w' g t cs:=(hb.block g hg).trans h
theorem Blk.grown {row:Option Nat}(h:Blk w g t cs)(hb:w.grownBy w' row)(hg:some g≠row):Blk w' g t cs:=(hb.block g h.lt hg).trans h
theorem Blk.other {g':Nat}{t':TypeId}{cs':Array Value}(h:Blk w g t cs)(h':Blk w g' t' cs')(hne:t≠t'):g≠g':=by
 rintro rfl;unfold Blk at h h';rw[h] at h';injection h' with h';injection h' with _ ht;exact hne ht
theorem grown_refl (w:World)(row:Option Nat):w.grownBy w row:=⟨rfl,rfl,rfl,Nat.le_refl _,fun _ _ _=>rfl⟩
theorem grown_trans {a b c:World}{row:Option Nat}(h:a.grownBy b row)(k:b.grownBy c row):a.grownBy c row:=
 ⟨k.os.trans h.os,k.tape.trans h.tape,k.output.trans h.output,Nat.le_trans h.size k.size,fun i hi hn=>(k.block i (Nat.lt_of_lt_of_le hi h.size) hn).trans (h.block i hi hn)⟩
theorem grown_drew {row:Option Nat}(h:a.grownBy w row):a.grownBy w.drew row:=⟨h.os,h.tape,h.output,h.size,h.block⟩
theorem grown_alloc {row:Option Nat}(h:a.grownBy w row)(o:Obj):a.grownBy (w.alloc o) row:=
 ⟨h.os,h.tape,h.output,Nat.le_trans h.size (by simp),fun i hi hne=>(Below.heap_alloc w o i (Nat.lt_of_lt_of_le hi h.size)).trans (h.block i hi hne)⟩
theorem grown_put {g:Nat}(h:a.grownBy w (some g))(i:Nat)(u:Value):a.grownBy (w.setCell ⟨g,i,none⟩ u) (some g):=
 ⟨h.os,h.tape,h.output,by simpa [World.setCell] using h.size,fun i hi hne=>(Below.heap_setCell w _ u i (fun e=>hne (by rw[e]))).trans (h.block i hi hne)⟩
theorem grown_of_drew {row:Option Nat}(h:w.drew.grownBy w' row):w.grownBy w' row:=⟨h.os,h.tape,h.output,h.size,h.block⟩
theorem below_of_drewN {B n:Nat}(h:Below B (w.drewN n) w'):Below B w w':=⟨h.os,h.tape,h.output,h.size,h.block⟩
theorem grown_below {row:Option Nat}(h:Below a.heap.size a w):a.grownBy w row:=⟨h.os,h.tape,h.output,h.size,fun i hi _=>h.block i hi⟩
end
theorem res_blk_tmp {P:Program}{fn:Func}{p q:Tmp}{ty:TypeId}(h:fn.results= #[.cell p ty,.tmp q])(tmps:Array Value)(w:World)(g:Nat)(t:TypeId)(cs:Array Value)(d:TypeDesc)
  (hp:tmps.getD p undef= .pointer (some ⟨g,0,none⟩)) (hg:Blk w g t cs)
  (hu:P.underlying ty=some d) (hd:(match d with | .struct _ | .array _ _=>true | _=>false)=true) (hi:(P.info? ty).map (·.size)=some cs.size):
  (results fn tmps).run P w= .ok (.tuple #[.agg cs,tmps.getD q undef]) w:=by
 have hp':tmps[p]?.getD undef= .pointer (some ⟨g,0,none⟩):=by simpa using hp
 simp [results,h,hp',asAddr,run_loadVar_row w g t ty cs (0,0) d hg hu hd hi]
def Held (S:World→Prop):Type:={w:World//S w}
def HeldW {S:World→Prop} (n:Held S):World:=n.1
theorem HeldW_spec {S:World→Prop}(n:Held S):S (HeldW n):=n.2
theorem held_mk {S:World→Prop}(w:World)(h:S w):∃n:Held S,w=HeldW n:=⟨⟨w,h⟩,rfl⟩
theorem held_some {S:World→Prop}{w:World}(h:S w):Nonempty (Held S):=⟨⟨w,h⟩⟩
theorem wp_region_class {P:Program}(S:World→Prop){id:Nat}{Q:Exit→Act→World→Prop}{a:Act}{w:World}{l:List Oper}(hm:P.follows .mixedOrders=true)(hB:Region.lexB .any l.toArray=true)(hS:S w.drew)
  (h:wpQuiet P l.toArray (fun w'=>∃n:Held S,w'=HeldW n) (fun a'=>∀w',(∃n:Held S,w'=HeldW n)→Q .normal a' w') l a):(Code.region id l.toArray true).wp P Q a w:=
 wp_region_quiet (C:=fun w'=>∃n:Held S,w'=HeldW n) hm hB (held_mk (S:=S) w.drew hS) (by simpa using h)
theorem held_same {P:Program}{S:World→Prop}{f:FuncId}{args:Array Value}{n:Held S}{v:Value}(h:Calls P f args (HeldW n) fun e w'=>e= .returned v∧HeldW n=w'):
  Calls P f args (HeldW n) fun e w''=>e= .returned v∧∃m:Held S,w''=HeldW m:=h.mono fun e w' hr=>⟨hr.1,n,hr.2.symm⟩
theorem held_below {P:Program}{S:World→Prop}{f:FuncId}{args:Array Value}{n:Held S}{v:Value}(hS:∀w w':World,S w→Below w.heap.size w w'→S w')(h:Calls P f args (HeldW n) fun e w'=>e= .returned v∧Below (HeldW n).heap.size (HeldW n) w'):
  Calls P f args (HeldW n) fun e w''=>e= .returned v∧∃m:Held S,w''=HeldW m:=h.mono fun e w' hr=>⟨hr.1,held_mk _ (hS _ _ (HeldW_spec n) hr.2)⟩
def Aft (a:World) (W:World):Prop:=Below a.heap.size a W
theorem Aft.keep {a:World}:∀w w':World,Aft a w→Below w.heap.size w w'→Aft a w':=fun _ _ h k=>Below.trans h (k.mono (Below.size h))
theorem Aft.start (a:World):Aft a a.drew:=(Below.refl _ a).drew
theorem Aft.cell {a:World}(n:Held (Aft a)){p:Addr}(hp:p.block<a.heap.size):(HeldW n).cell? p=a.cell? p:=Below.cell (HeldW_spec n) hp
theorem Aft.some (a:World):Nonempty (Held (Aft a)):=held_some (S:=Aft a) (w:=a.drew) (Aft.start a)
end Sw
namespace Go.Proofs.YtnpehjgnplaabaaGreatDoor
open Go Go.RowKit
open Sw
theorem _root_.qA {α:Type}{l:List α}{i:Nat}:l.toArray[i]? =l[i]? :=List.getElem?_toArray
theorem _root_.qB {α:Type}{a:α}{l:List α}{i:Nat}:(a::l)[i+1]? =l[i]? :=List.getElem?_cons_succ
theorem _root_.qC {α:Type}{a:α}{l:List α}:(a::l)[0]? =some a:=List.getElem?_cons_zero
theorem _root_.zA {a b:Prop}(x:a)(y:b):a∧b:=⟨x,y⟩
theorem _root_.zH {p:Prop}(h:p):RowKit.Hid p:=h
theorem _root_.zN (n:Nat):n≤n:=Nat.le_refl n
theorem _root_.zT {a b c:Nat}(h:a≤b)(k:b≤c):a≤c:=Nat.le_trans h k
theorem _root_.zR (B:Nat)(w:World):Below B w w:=Below.refl B w
theorem _root_.zB {α:Type}[BEq α][LawfulBEq α]{a b:α}:(a==b)=false↔a≠b:=beq_eq_false_iff_ne
theorem _root_.zK {w:World}{g:Nat}{t:TypeId}{cs:Array Value}(h:Blk w g t cs)(j:Nat)(u:Value)(e:cs[j]? =some u):∀m:Held (Aft w),(HeldW m).cell? ⟨g,j,none⟩=some u:=fun m=>((Aft.cell m h.lt).trans (h.cell j)).trans e
theorem _root_.Sw.Blk.put6 {w:World}{g:Nat}{t:TypeId}{c0 c1 c2 c3 c4 c5 v0 v1 v2 v3 v4 v5:Value}(h:Blk w g t #[c0,c1,c2,c3,c4,c5]):Blk ((((((w.setCell ⟨g,0,none⟩ v0).setCell ⟨g,1,none⟩ v1).setCell ⟨g,2,none⟩ v2).setCell ⟨g,3,none⟩ v3).setCell ⟨g,4,none⟩ v4).setCell ⟨g,5,none⟩ v5) g t #[v0,v1,v2,v3,v4,v5]:=by
 have p0:Blk (w.setCell ⟨g,0,none⟩ v0) g t #[v0,c1,c2,c3,c4,c5]:=h.put 0 v0;have p1:Blk ((w.setCell ⟨g,0,none⟩ v0).setCell ⟨g,1,none⟩ v1) g t #[v0,v1,c2,c3,c4,c5]:=p0.put 1 v1;have p2:Blk (((w.setCell ⟨g,0,none⟩ v0).setCell ⟨g,1,none⟩ v1).setCell ⟨g,2,none⟩ v2) g t #[v0,v1,v2,c3,c4,c5]:=p1.put 2 v2;have p3:Blk ((((w.setCell ⟨g,0,none⟩ v0).setCell ⟨g,1,none⟩ v1).setCell ⟨g,2,none⟩ v2).setCell ⟨g,3,none⟩ v3) g t #[v0,v1,v2,v3,c4,c5]:=p2.put 3 v3;have p4:Blk (((((w.setCell ⟨g,0,none⟩ v0).setCell ⟨g,1,none⟩ v1).setCell ⟨g,2,none⟩ v2).setCell ⟨g,3,none⟩ v3).setCell ⟨g,4,none⟩ v4) g t #[v0,v1,v2,v3,v4,c5]:=p3.put 4 v4;have p5:Blk ((((((w.setCell ⟨g,0,none⟩ v0).setCell ⟨g,1,none⟩ v1).setCell ⟨g,2,none⟩ v2).setCell ⟨g,3,none⟩ v3).setCell ⟨g,4,none⟩ v4).setCell ⟨g,5,none⟩ v5) g t #[v0,v1,v2,v3,v4,v5]:=p4.put 5 v5;exact p5
theorem _root_.Sw.Blk.put10 {w:World}{g:Nat}{t:TypeId}{c0 c1 c2 c3 c4 c5 c6 c7 c8 c9 v0 v1 v2 v3 v4 v5 v6 v7 v8 v9:Value}(h:Blk w g t #[c0,c1,c2,c3,c4,c5,c6,c7,c8,c9]):Blk ((((((((((w.setCell ⟨g,0,none⟩ v0).setCell ⟨g,1,none⟩ v1).setCell ⟨g,2,none⟩ v2).setCell ⟨g,3,none⟩ v3).setCell ⟨g,4,none⟩ v4).setCell ⟨g,5,none⟩ v5).setCell ⟨g,6,none⟩ v6).setCell ⟨g,7,none⟩ v7).setCell ⟨g,8,none⟩ v8).setCell ⟨g,9,none⟩ v9) g t #[v0,v1,v2,v3,v4,v5,v6,v7,v8,v9]:=by
 have p0:Blk (w.setCell ⟨g,0,none⟩ v0) g t #[v0,c1,c2,c3,c4,c5,c6,c7,c8,c9]:=h.put 0 v0;have p1:Blk ((w.setCell ⟨g,0,none⟩ v0).setCell ⟨g,1,none⟩ v1) g t #[v0,v1,c2,c3,c4,c5,c6,c7,c8,c9]:=p0.put 1 v1;have p2:Blk (((w.setCell ⟨g,0,none⟩ v0).setCell ⟨g,1,none⟩ v1).setCell ⟨g,2,none⟩ v2) g t #[v0,v1,v2,c3,c4,c5,c6,c7,c8,c9]:=p1.put 2 v2;have p3:Blk ((((w.setCell ⟨g,0,none⟩ v0).setCell ⟨g,1,none⟩ v1).setCell ⟨g,2,none⟩ v2).setCell ⟨g,3,none⟩ v3) g t #[v0,v1,v2,v3,c4,c5,c6,c7,c8,c9]:=p2.put 3 v3;have p4:Blk (((((w.setCell ⟨g,0,none⟩ v0).setCell ⟨g,1,none⟩ v1).setCell ⟨g,2,none⟩ v2).setCell ⟨g,3,none⟩ v3).setCell ⟨g,4,none⟩ v4) g t #[v0,v1,v2,v3,v4,c5,c6,c7,c8,c9]:=p3.put 4 v4;have p5:Blk ((((((w.setCell ⟨g,0,none⟩ v0).setCell ⟨g,1,none⟩ v1).setCell ⟨g,2,none⟩ v2).setCell ⟨g,3,none⟩ v3).setCell ⟨g,4,none⟩ v4).setCell ⟨g,5,none⟩ v5) g t #[v0,v1,v2,v3,v4,v5,c6,c7,c8,c9]:=p4.put 5 v5;have p6:Blk (((((((w.setCell ⟨g,0,none⟩ v0).setCell ⟨g,1,none⟩ v1).setCell ⟨g,2,none⟩ v2).setCell ⟨g,3,none⟩ v3).setCell ⟨g,4,none⟩ v4).setCell ⟨g,5,none⟩ v5).setCell ⟨g,6,none⟩ v6) g t #[v0,v1,v2,v3,v4,v5,v6,c7,c8,c9]:=p5.put 6 v6;have p7:Blk ((((((((w.setCell ⟨g,0,none⟩ v0).setCell ⟨g,1,none⟩ v1).setCell ⟨g,2,none⟩ v2).setCell ⟨g,3,none⟩ v3).setCell ⟨g,4,none⟩ v4).setCell ⟨g,5,none⟩ v5).setCell ⟨g,6,none⟩ v6).setCell ⟨g,7,none⟩ v7) g t #[v0,v1,v2,v3,v4,v5,v6,v7,c8,c9]:=p6.put 7 v7;have p8:Blk (((((((((w.setCell ⟨g,0,none⟩ v0).setCell ⟨g,1,none⟩ v1).setCell ⟨g,2,none⟩ v2).setCell ⟨g,3,none⟩ v3).setCell ⟨g,4,none⟩ v4).setCell ⟨g,5,none⟩ v5).setCell ⟨g,6,none⟩ v6).setCell ⟨g,7,none⟩ v7).setCell ⟨g,8,none⟩ v8) g t #[v0,v1,v2,v3,v4,v5,v6,v7,v8,c9]:=p7.put 8 v8;have p9:Blk ((((((((((w.setCell ⟨g,0,none⟩ v0).setCell ⟨g,1,none⟩ v1).setCell ⟨g,2,none⟩ v2).setCell ⟨g,3,none⟩ v3).setCell ⟨g,4,none⟩ v4).setCell ⟨g,5,none⟩ v5).setCell ⟨g,6,none⟩ v6).setCell ⟨g,7,none⟩ v7).setCell ⟨g,8,none⟩ v8).setCell ⟨g,9,none⟩ v9) g t #[v0,v1,v2,v3,v4,v5,v6,v7,v8,v9]:=p8.put 9 v9;exact p9
theorem _root_.Sw.Blk.put11 {w:World}{g:Nat}{t:TypeId}{c0 c1 c2 c3 c4 c5 c6 c7 c8 c9 c10 v0 v1 v2 v3 v4 v5 v6 v7 v8 v9 v10:Value}(h:Blk w g t #[c0,c1,c2,c3,c4,c5,c6,c7,c8,c9,c10]):Blk (((((((((((w.setCell ⟨g,0,none⟩ v0).setCell ⟨g,1,none⟩ v1).setCell ⟨g,2,none⟩ v2).setCell ⟨g,3,none⟩ v3).setCell ⟨g,4,none⟩ v4).setCell ⟨g,5,none⟩ v5).setCell ⟨g,6,none⟩ v6).setCell ⟨g,7,none⟩ v7).setCell ⟨g,8,none⟩ v8).setCell ⟨g,9,none⟩ v9).setCell ⟨g,10,none⟩ v10) g t #[v0,v1,v2,v3,v4,v5,v6,v7,v8,v9,v10]:=by
 have p0:Blk (w.setCell ⟨g,0,none⟩ v0) g t #[v0,c1,c2,c3,c4,c5,c6,c7,c8,c9,c10]:=h.put 0 v0;have p1:Blk ((w.setCell ⟨g,0,none⟩ v0).setCell ⟨g,1,none⟩ v1) g t #[v0,v1,c2,c3,c4,c5,c6,c7,c8,c9,c10]:=p0.put 1 v1;have p2:Blk (((w.setCell ⟨g,0,none⟩ v0).setCell ⟨g,1,none⟩ v1).setCell ⟨g,2,none⟩ v2) g t #[v0,v1,v2,c3,c4,c5,c6,c7,c8,c9,c10]:=p1.put 2 v2;have p3:Blk ((((w.setCell ⟨g,0,none⟩ v0).setCell ⟨g,1,none⟩ v1).setCell ⟨g,2,none⟩ v2).setCell ⟨g,3,none⟩ v3) g t #[v0,v1,v2,v3,c4,c5,c6,c7,c8,c9,c10]:=p2.put 3 v3;have p4:Blk (((((w.setCell ⟨g,0,none⟩ v0).setCell ⟨g,1,none⟩ v1).setCell ⟨g,2,none⟩ v2).setCell ⟨g,3,none⟩ v3).setCell ⟨g,4,none⟩ v4) g t #[v0,v1,v2,v3,v4,c5,c6,c7,c8,c9,c10]:=p3.put 4 v4;have p5:Blk ((((((w.setCell ⟨g,0,none⟩ v0).setCell ⟨g,1,none⟩ v1).setCell ⟨g,2,none⟩ v2).setCell ⟨g,3,none⟩ v3).setCell ⟨g,4,none⟩ v4).setCell ⟨g,5,none⟩ v5) g t #[v0,v1,v2,v3,v4,v5,c6,c7,c8,c9,c10]:=p4.put 5 v5;have p6:Blk (((((((w.setCell ⟨g,0,none⟩ v0).setCell ⟨g,1,none⟩ v1).setCell ⟨g,2,none⟩ v2).setCell ⟨g,3,none⟩ v3).setCell ⟨g,4,none⟩ v4).setCell ⟨g,5,none⟩ v5).setCell ⟨g,6,none⟩ v6) g t #[v0,v1,v2,v3,v4,v5,v6,c7,c8,c9,c10]:=p5.put 6 v6;have p7:Blk ((((((((w.setCell ⟨g,0,none⟩ v0).setCell ⟨g,1,none⟩ v1).setCell ⟨g,2,none⟩ v2).setCell ⟨g,3,none⟩ v3).setCell ⟨g,4,none⟩ v4).setCell ⟨g,5,none⟩ v5).setCell ⟨g,6,none⟩ v6).setCell ⟨g,7,none⟩ v7) g t #[v0,v1,v2,v3,v4,v5,v6,v7,c8,c9,c10]:=p6.put 7 v7;have p8:Blk (((((((((w.setCell ⟨g,0,none⟩ v0).setCell ⟨g,1,none⟩ v1).setCell ⟨g,2,none⟩ v2).setCell ⟨g,3,none⟩ v3).setCell ⟨g,4,none⟩ v4).setCell ⟨g,5,none⟩ v5).setCell ⟨g,6,none⟩ v6).setCell ⟨g,7,none⟩ v7).setCell ⟨g,8,none⟩ v8) g t #[v0,v1,v2,v3,v4,v5,v6,v7,v8,c9,c10]:=p7.put 8 v8;have p9:Blk ((((((((((w.setCell ⟨g,0,none⟩ v0).setCell ⟨g,1,none⟩ v1).setCell ⟨g,2,none⟩ v2).setCell ⟨g,3,none⟩ v3).setCell ⟨g,4,none⟩ v4).setCell ⟨g,5,none⟩ v5).setCell ⟨g,6,none⟩ v6).setCell ⟨g,7,none⟩ v7).setCell ⟨g,8,none⟩ v8).setCell ⟨g,9,none⟩ v9) g t #[v0,v1,v2,v3,v4,v5,v6,v7,v8,v9,c10]:=p8.put 9 v9;have p10:Blk (((((((((((w.setCell ⟨g,0,none⟩ v0).setCell ⟨g,1,none⟩ v1).setCell ⟨g,2,none⟩ v2).setCell ⟨g,3,none⟩ v3).setCell ⟨g,4,none⟩ v4).setCell ⟨g,5,none⟩ v5).setCell ⟨g,6,none⟩ v6).setCell ⟨g,7,none⟩ v7).setCell ⟨g,8,none⟩ v8).setCell ⟨g,9,none⟩ v9).setCell ⟨g,10,none⟩ v10) g t #[v0,v1,v2,v3,v4,v5,v6,v7,v8,v9,v10]:=p9.put 10 v10;exact p10
theorem _root_.Sw.Blk.put4a {w:World}{g:Nat}{t:TypeId}{c0 c1 c2 c3 c4 c5 c6 c7 c8 c9 v0 v1 v2 v3:Value}(h:Blk w g t #[c0,c1,c2,c3,c4,c5,c6,c7,c8,c9]):Blk ((((w.setCell ⟨g,1,none⟩ v0).setCell ⟨g,2,none⟩ v1).setCell ⟨g,3,none⟩ v2).setCell ⟨g,4,none⟩ v3) g t #[c0,v0,v1,v2,v3,c5,c6,c7,c8,c9]:=by
 have p0:Blk (w.setCell ⟨g,1,none⟩ v0) g t #[c0,v0,c2,c3,c4,c5,c6,c7,c8,c9]:=h.put 1 v0;have p1:Blk ((w.setCell ⟨g,1,none⟩ v0).setCell ⟨g,2,none⟩ v1) g t #[c0,v0,v1,c3,c4,c5,c6,c7,c8,c9]:=p0.put 2 v1;have p2:Blk (((w.setCell ⟨g,1,none⟩ v0).setCell ⟨g,2,none⟩ v1).setCell ⟨g,3,none⟩ v2) g t #[c0,v0,v1,v2,c4,c5,c6,c7,c8,c9]:=p1.put 3 v2;have p3:Blk ((((w.setCell ⟨g,1,none⟩ v0).setCell ⟨g,2,none⟩ v1).setCell ⟨g,3,none⟩ v2).setCell ⟨g,4,none⟩ v3) g t #[c0,v0,v1,v2,v3,c5,c6,c7,c8,c9]:=p2.put 4 v3;exact p3
theorem _root_.Sw.Blk.put4b {w:World}{g:Nat}{t:TypeId}{c0 c1 c2 c3 c4 c5 c6 c7 c8 c9 v0 v1 v2 v3:Value}(h:Blk w g t #[c0,c1,c2,c3,c4,c5,c6,c7,c8,c9]):Blk ((((w.setCell ⟨g,5,none⟩ v0).setCell ⟨g,6,none⟩ v1).setCell ⟨g,7,none⟩ v2).setCell ⟨g,8,none⟩ v3) g t #[c0,c1,c2,c3,c4,v0,v1,v2,v3,c9]:=by
 have p0:Blk (w.setCell ⟨g,5,none⟩ v0) g t #[c0,c1,c2,c3,c4,v0,c6,c7,c8,c9]:=h.put 5 v0;have p1:Blk ((w.setCell ⟨g,5,none⟩ v0).setCell ⟨g,6,none⟩ v1) g t #[c0,c1,c2,c3,c4,v0,v1,c7,c8,c9]:=p0.put 6 v1;have p2:Blk (((w.setCell ⟨g,5,none⟩ v0).setCell ⟨g,6,none⟩ v1).setCell ⟨g,7,none⟩ v2) g t #[c0,c1,c2,c3,c4,v0,v1,v2,c8,c9]:=p1.put 7 v2;have p3:Blk ((((w.setCell ⟨g,5,none⟩ v0).setCell ⟨g,6,none⟩ v1).setCell ⟨g,7,none⟩ v2).setCell ⟨g,8,none⟩ v3) g t #[c0,c1,c2,c3,c4,v0,v1,v2,v3,c9]:=p2.put 8 v3;exact p3
theorem _root_.Go.Below.set4a {B g:Nat}{a w:World}{v0 v1 v2 v3:Value}(h:Below B a w)(hg:B≤g):Below B a ((((w.setCell ⟨g,1,none⟩ v0).setCell ⟨g,2,none⟩ v1).setCell ⟨g,3,none⟩ v2).setCell ⟨g,4,none⟩ v3):=((((h.setCell (p:=⟨g,1,none⟩) hg v0).setCell (p:=⟨g,2,none⟩) hg v1).setCell (p:=⟨g,3,none⟩) hg v2).setCell (p:=⟨g,4,none⟩) hg v3)
theorem _root_.Go.Below.set4b {B g:Nat}{a w:World}{v0 v1 v2 v3:Value}(h:Below B a w)(hg:B≤g):Below B a ((((w.setCell ⟨g,5,none⟩ v0).setCell ⟨g,6,none⟩ v1).setCell ⟨g,7,none⟩ v2).setCell ⟨g,8,none⟩ v3):=((((h.setCell (p:=⟨g,5,none⟩) hg v0).setCell (p:=⟨g,6,none⟩) hg v1).setCell (p:=⟨g,7,none⟩) hg v2).setCell (p:=⟨g,8,none⟩) hg v3)
theorem _root_.Go.Below.set6 {B g:Nat}{a w:World}{v0 v1 v2 v3 v4 v5:Value}(h:Below B a w)(hg:B≤g):Below B a ((((((w.setCell ⟨g,0,none⟩ v0).setCell ⟨g,1,none⟩ v1).setCell ⟨g,2,none⟩ v2).setCell ⟨g,3,none⟩ v3).setCell ⟨g,4,none⟩ v4).setCell ⟨g,5,none⟩ v5):=((((((h.setCell (p:=⟨g,0,none⟩) hg v0).setCell (p:=⟨g,1,none⟩) hg v1).setCell (p:=⟨g,2,none⟩) hg v2).setCell (p:=⟨g,3,none⟩) hg v3).setCell (p:=⟨g,4,none⟩) hg v4).setCell (p:=⟨g,5,none⟩) hg v5)
theorem _root_.Go.Below.set10 {B g:Nat}{a w:World}{v0 v1 v2 v3 v4 v5 v6 v7 v8 v9:Value}(h:Below B a w)(hg:B≤g):Below B a ((((((((((w.setCell ⟨g,0,none⟩ v0).setCell ⟨g,1,none⟩ v1).setCell ⟨g,2,none⟩ v2).setCell ⟨g,3,none⟩ v3).setCell ⟨g,4,none⟩ v4).setCell ⟨g,5,none⟩ v5).setCell ⟨g,6,none⟩ v6).setCell ⟨g,7,none⟩ v7).setCell ⟨g,8,none⟩ v8).setCell ⟨g,9,none⟩ v9):=((((((((((h.setCell (p:=⟨g,0,none⟩) hg v0).setCell (p:=⟨g,1,none⟩) hg v1).setCell (p:=⟨g,2,none⟩) hg v2).setCell (p:=⟨g,3,none⟩) hg v3).setCell (p:=⟨g,4,none⟩) hg v4).setCell (p:=⟨g,5,none⟩) hg v5).setCell (p:=⟨g,6,none⟩) hg v6).setCell (p:=⟨g,7,none⟩) hg v7).setCell (p:=⟨g,8,none⟩) hg v8).setCell (p:=⟨g,9,none⟩) hg v9)
theorem _root_.Go.Below.set11 {B g:Nat}{a w:World}{v0 v1 v2 v3 v4 v5 v6 v7 v8 v9 v10:Value}(h:Below B a w)(hg:B≤g):Below B a (((((((((((w.setCell ⟨g,0,none⟩ v0).setCell ⟨g,1,none⟩ v1).setCell ⟨g,2,none⟩ v2).setCell ⟨g,3,none⟩ v3).setCell ⟨g,4,none⟩ v4).setCell ⟨g,5,none⟩ v5).setCell ⟨g,6,none⟩ v6).setCell ⟨g,7,none⟩ v7).setCell ⟨g,8,none⟩ v8).setCell ⟨g,9,none⟩ v9).setCell ⟨g,10,none⟩ v10):=(((((((((((h.setCell (p:=⟨g,0,none⟩) hg v0).setCell (p:=⟨g,1,none⟩) hg v1).setCell (p:=⟨g,2,none⟩) hg v2).setCell (p:=⟨g,3,none⟩) hg v3).setCell (p:=⟨g,4,none⟩) hg v4).setCell (p:=⟨g,5,none⟩) hg v5).setCell (p:=⟨g,6,none⟩) hg v6).setCell (p:=⟨g,7,none⟩) hg v7).setCell (p:=⟨g,8,none⟩) hg v8).setCell (p:=⟨g,9,none⟩) hg v9).setCell (p:=⟨g,10,none⟩) hg v10)
theorem _root_.Go.Below.heap6 {w:World}{g k:Nat}{v0 v1 v2 v3 v4 v5:Value}(hn:k≠g):(((((((w.setCell ⟨g,0,none⟩ v0).setCell ⟨g,1,none⟩ v1).setCell ⟨g,2,none⟩ v2).setCell ⟨g,3,none⟩ v3).setCell ⟨g,4,none⟩ v4).setCell ⟨g,5,none⟩ v5)).heap[k]? =w.heap[k]? :=((((((Below.heap_setCell _ ⟨g,5,none⟩ _ k hn).trans (Below.heap_setCell _ ⟨g,4,none⟩ _ k hn)).trans (Below.heap_setCell _ ⟨g,3,none⟩ _ k hn)).trans (Below.heap_setCell _ ⟨g,2,none⟩ _ k hn)).trans (Below.heap_setCell _ ⟨g,1,none⟩ _ k hn)).trans (Below.heap_setCell _ ⟨g,0,none⟩ _ k hn))
theorem _root_.Go.Below.heap10 {w:World}{g k:Nat}{v0 v1 v2 v3 v4 v5 v6 v7 v8 v9:Value}(hn:k≠g):(((((((((((w.setCell ⟨g,0,none⟩ v0).setCell ⟨g,1,none⟩ v1).setCell ⟨g,2,none⟩ v2).setCell ⟨g,3,none⟩ v3).setCell ⟨g,4,none⟩ v4).setCell ⟨g,5,none⟩ v5).setCell ⟨g,6,none⟩ v6).setCell ⟨g,7,none⟩ v7).setCell ⟨g,8,none⟩ v8).setCell ⟨g,9,none⟩ v9)).heap[k]? =w.heap[k]? :=((((((((((Below.heap_setCell _ ⟨g,9,none⟩ _ k hn).trans (Below.heap_setCell _ ⟨g,8,none⟩ _ k hn)).trans (Below.heap_setCell _ ⟨g,7,none⟩ _ k hn)).trans (Below.heap_setCell _ ⟨g,6,none⟩ _ k hn)).trans (Below.heap_setCell _ ⟨g,5,none⟩ _ k hn)).trans (Below.heap_setCell _ ⟨g,4,none⟩ _ k hn)).trans (Below.heap_setCell _ ⟨g,3,none⟩ _ k hn)).trans (Below.heap_setCell _ ⟨g,2,none⟩ _ k hn)).trans (Below.heap_setCell _ ⟨g,1,none⟩ _ k hn)).trans (Below.heap_setCell _ ⟨g,0,none⟩ _ k hn))
theorem _root_.Go.Below.heap11 {w:World}{g k:Nat}{v0 v1 v2 v3 v4 v5 v6 v7 v8 v9 v10:Value}(hn:k≠g):((((((((((((w.setCell ⟨g,0,none⟩ v0).setCell ⟨g,1,none⟩ v1).setCell ⟨g,2,none⟩ v2).setCell ⟨g,3,none⟩ v3).setCell ⟨g,4,none⟩ v4).setCell ⟨g,5,none⟩ v5).setCell ⟨g,6,none⟩ v6).setCell ⟨g,7,none⟩ v7).setCell ⟨g,8,none⟩ v8).setCell ⟨g,9,none⟩ v9).setCell ⟨g,10,none⟩ v10)).heap[k]? =w.heap[k]? :=(((((((((((Below.heap_setCell _ ⟨g,10,none⟩ _ k hn).trans (Below.heap_setCell _ ⟨g,9,none⟩ _ k hn)).trans (Below.heap_setCell _ ⟨g,8,none⟩ _ k hn)).trans (Below.heap_setCell _ ⟨g,7,none⟩ _ k hn)).trans (Below.heap_setCell _ ⟨g,6,none⟩ _ k hn)).trans (Below.heap_setCell _ ⟨g,5,none⟩ _ k hn)).trans (Below.heap_setCell _ ⟨g,4,none⟩ _ k hn)).trans (Below.heap_setCell _ ⟨g,3,none⟩ _ k hn)).trans (Below.heap_setCell _ ⟨g,2,none⟩ _ k hn)).trans (Below.heap_setCell _ ⟨g,1,none⟩ _ k hn)).trans (Below.heap_setCell _ ⟨g,0,none⟩ _ k hn))
theorem _root_.zD {p:Prop}[inst:Decidable p]:¬p→decide p=false:=decide_eq_false
theorem _root_.zE {p:Prop}[inst:Decidable p]:p→decide p=true:=decide_eq_true
theorem _root_.zF {α:Type}{l m:List α}:(l++m).length=l.length+m.length:=List.length_append
theorem _root_.zG {α:Type}{i:Nat}{l:List α}(h:i<l.length):l.take (i+1)=l.take i++[l[i]]:=List.take_succ_eq_append_getElem h
theorem _root_.zI {α:Type}{a:α}{l:List α}:(a::l).length=l.length+1:=List.length_cons
theorem _root_.zJ (w:World)(a:Addr)(u:Value)(k:Nat)(h:k≠a.block):(w.setCell a u).heap[k]? =w.heap[k]? :=Below.heap_setCell w a u k h
theorem _root_.zL {α:Type}{i:Nat}{l:List α}:(l.take i).length=min i l.length:=List.length_take
theorem _root_.zM {α:Type}{l:List α}{i:Nat}(h:i<l.length):l[i]? =some l[i]:=List.getElem?_eq_getElem h
theorem _root_.zO {α:Type}{i:Nat}{l:List α}(h:l.length≤i):l.take i=l:=List.take_of_length_le h
theorem _root_.zP {α:Type}{l:List α}{n:Nat}(h:n<l.length):l[n]'h∈l:=List.getElem_mem h
theorem _root_.zQ {n m k:Nat}:n<m→m≤k→n<k:=Nat.lt_of_lt_of_le
theorem _root_.zS {α β:Type}{l:List α}(f:α→β):(l.map f).length=l.length:=List.length_map f
theorem _root_.zU {α:Type}{a:α}{l:List α}(bs:List α):a∈l→a∈l++bs:=List.mem_append_left bs
theorem _root_.zV {α:Type}(l bs cs:List α):l++bs++cs=l++(bs++cs):=List.append_assoc l bs cs
theorem _root_.zc2 {w:World}{g:Nat}{t:TypeId}{cs:Array Value}(h:Blk w g t cs):w.cell? ⟨g,0,none⟩=cs[0]?∧w.cell? ⟨g,1,none⟩=cs[1]? :=⟨h.cell 0,h.cell 1⟩
theorem _root_.zf2 {w:World}{g:Nat}{t:TypeId}{cs:Array Value}(h:Blk w g t cs):w.frozen? ⟨g,0,none⟩=false∧w.frozen? ⟨g,1,none⟩=false:=⟨h.frozen 0,h.frozen 1⟩
theorem _root_.zc3 {w:World}{g:Nat}{t:TypeId}{cs:Array Value}(h:Blk w g t cs):w.cell? ⟨g,0,none⟩=cs[0]?∧w.cell? ⟨g,1,none⟩=cs[1]?∧w.cell? ⟨g,2,none⟩=cs[2]? :=⟨h.cell 0,h.cell 1,h.cell 2⟩
theorem _root_.zf3 {w:World}{g:Nat}{t:TypeId}{cs:Array Value}(h:Blk w g t cs):w.frozen? ⟨g,0,none⟩=false∧w.frozen? ⟨g,1,none⟩=false∧w.frozen? ⟨g,2,none⟩=false:=⟨h.frozen 0,h.frozen 1,h.frozen 2⟩
theorem _root_.zs3 {P:Nat→Prop}{k:Nat}(h:∀j,j<k→P j)(hk:3≤k:=by decide):P 0∧P 1∧P 2:=⟨h 0 (by omega),h 1 (by omega),h 2 (by omega)⟩
theorem _root_.zc4 {w:World}{g:Nat}{t:TypeId}{cs:Array Value}(h:Blk w g t cs):w.cell? ⟨g,0,none⟩=cs[0]?∧w.cell? ⟨g,1,none⟩=cs[1]?∧w.cell? ⟨g,2,none⟩=cs[2]?∧w.cell? ⟨g,3,none⟩=cs[3]? :=⟨h.cell 0,h.cell 1,h.cell 2,h.cell 3⟩
theorem _root_.zf4 {w:World}{g:Nat}{t:TypeId}{cs:Array Value}(h:Blk w g t cs):w.frozen? ⟨g,0,none⟩=false∧w.frozen? ⟨g,1,none⟩=false∧w.frozen? ⟨g,2,none⟩=false∧w.frozen? ⟨g,3,none⟩=false:=⟨h.frozen 0,h.frozen 1,h.frozen 2,h.frozen 3⟩
theorem _root_.zs4 {P:Nat→Prop}{k:Nat}(h:∀j,j<k→P j)(hk:4≤k:=by decide):P 0∧P 1∧P 2∧P 3:=⟨h 0 (by omega),h 1 (by omega),h 2 (by omega),h 3 (by omega)⟩
theorem _root_.zc5 {w:World}{g:Nat}{t:TypeId}{cs:Array Value}(h:Blk w g t cs):w.cell? ⟨g,0,none⟩=cs[0]?∧w.cell? ⟨g,1,none⟩=cs[1]?∧w.cell? ⟨g,2,none⟩=cs[2]?∧w.cell? ⟨g,3,none⟩=cs[3]?∧w.cell? ⟨g,4,none⟩=cs[4]? :=⟨h.cell 0,h.cell 1,h.cell 2,h.cell 3,h.cell 4⟩
theorem _root_.zf5 {w:World}{g:Nat}{t:TypeId}{cs:Array Value}(h:Blk w g t cs):w.frozen? ⟨g,0,none⟩=false∧w.frozen? ⟨g,1,none⟩=false∧w.frozen? ⟨g,2,none⟩=false∧w.frozen? ⟨g,3,none⟩=false∧w.frozen? ⟨g,4,none⟩=false:=⟨h.frozen 0,h.frozen 1,h.frozen 2,h.frozen 3,h.frozen 4⟩
theorem _root_.zs5 {P:Nat→Prop}{k:Nat}(h:∀j,j<k→P j)(hk:5≤k:=by decide):P 0∧P 1∧P 2∧P 3∧P 4:=⟨h 0 (by omega),h 1 (by omega),h 2 (by omega),h 3 (by omega),h 4 (by omega)⟩
theorem _root_.zc6 {w:World}{g:Nat}{t:TypeId}{cs:Array Value}(h:Blk w g t cs):w.cell? ⟨g,0,none⟩=cs[0]?∧w.cell? ⟨g,1,none⟩=cs[1]?∧w.cell? ⟨g,2,none⟩=cs[2]?∧w.cell? ⟨g,3,none⟩=cs[3]?∧w.cell? ⟨g,4,none⟩=cs[4]?∧w.cell? ⟨g,5,none⟩=cs[5]? :=⟨h.cell 0,h.cell 1,h.cell 2,h.cell 3,h.cell 4,h.cell 5⟩
theorem _root_.zf6 {w:World}{g:Nat}{t:TypeId}{cs:Array Value}(h:Blk w g t cs):w.frozen? ⟨g,0,none⟩=false∧w.frozen? ⟨g,1,none⟩=false∧w.frozen? ⟨g,2,none⟩=false∧w.frozen? ⟨g,3,none⟩=false∧w.frozen? ⟨g,4,none⟩=false∧w.frozen? ⟨g,5,none⟩=false:=⟨h.frozen 0,h.frozen 1,h.frozen 2,h.frozen 3,h.frozen 4,h.frozen 5⟩
theorem _root_.zs6 {P:Nat→Prop}{k:Nat}(h:∀j,j<k→P j)(hk:6≤k:=by decide):P 0∧P 1∧P 2∧P 3∧P 4∧P 5:=⟨h 0 (by omega),h 1 (by omega),h 2 (by omega),h 3 (by omega),h 4 (by omega),h 5 (by omega)⟩
theorem _root_.zc7 {w:World}{g:Nat}{t:TypeId}{cs:Array Value}(h:Blk w g t cs):w.cell? ⟨g,0,none⟩=cs[0]?∧w.cell? ⟨g,1,none⟩=cs[1]?∧w.cell? ⟨g,2,none⟩=cs[2]?∧w.cell? ⟨g,3,none⟩=cs[3]?∧w.cell? ⟨g,4,none⟩=cs[4]?∧w.cell? ⟨g,5,none⟩=cs[5]?∧w.cell? ⟨g,6,none⟩=cs[6]? :=⟨h.cell 0,h.cell 1,h.cell 2,h.cell 3,h.cell 4,h.cell 5,h.cell 6⟩
theorem _root_.zf7 {w:World}{g:Nat}{t:TypeId}{cs:Array Value}(h:Blk w g t cs):w.frozen? ⟨g,0,none⟩=false∧w.frozen? ⟨g,1,none⟩=false∧w.frozen? ⟨g,2,none⟩=false∧w.frozen? ⟨g,3,none⟩=false∧w.frozen? ⟨g,4,none⟩=false∧w.frozen? ⟨g,5,none⟩=false∧w.frozen? ⟨g,6,none⟩=false:=⟨h.frozen 0,h.frozen 1,h.frozen 2,h.frozen 3,h.frozen 4,h.frozen 5,h.frozen 6⟩
theorem _root_.zs7 {P:Nat→Prop}{k:Nat}(h:∀j,j<k→P j)(hk:7≤k:=by decide):P 0∧P 1∧P 2∧P 3∧P 4∧P 5∧P 6:=⟨h 0 (by omega),h 1 (by omega),h 2 (by omega),h 3 (by omega),h 4 (by omega),h 5 (by omega),h 6 (by omega)⟩
theorem _root_.zc8 {w:World}{g:Nat}{t:TypeId}{cs:Array Value}(h:Blk w g t cs):w.cell? ⟨g,0,none⟩=cs[0]?∧w.cell? ⟨g,1,none⟩=cs[1]?∧w.cell? ⟨g,2,none⟩=cs[2]?∧w.cell? ⟨g,3,none⟩=cs[3]?∧w.cell? ⟨g,4,none⟩=cs[4]?∧w.cell? ⟨g,5,none⟩=cs[5]?∧w.cell? ⟨g,6,none⟩=cs[6]?∧w.cell? ⟨g,7,none⟩=cs[7]? :=⟨h.cell 0,h.cell 1,h.cell 2,h.cell 3,h.cell 4,h.cell 5,h.cell 6,h.cell 7⟩
theorem _root_.zf8 {w:World}{g:Nat}{t:TypeId}{cs:Array Value}(h:Blk w g t cs):w.frozen? ⟨g,0,none⟩=false∧w.frozen? ⟨g,1,none⟩=false∧w.frozen? ⟨g,2,none⟩=false∧w.frozen? ⟨g,3,none⟩=false∧w.frozen? ⟨g,4,none⟩=false∧w.frozen? ⟨g,5,none⟩=false∧w.frozen? ⟨g,6,none⟩=false∧w.frozen? ⟨g,7,none⟩=false:=⟨h.frozen 0,h.frozen 1,h.frozen 2,h.frozen 3,h.frozen 4,h.frozen 5,h.frozen 6,h.frozen 7⟩
theorem _root_.zs8 {P:Nat→Prop}{k:Nat}(h:∀j,j<k→P j)(hk:8≤k:=by decide):P 0∧P 1∧P 2∧P 3∧P 4∧P 5∧P 6∧P 7:=⟨h 0 (by omega),h 1 (by omega),h 2 (by omega),h 3 (by omega),h 4 (by omega),h 5 (by omega),h 6 (by omega),h 7 (by omega)⟩
theorem _root_.zc9 {w:World}{g:Nat}{t:TypeId}{cs:Array Value}(h:Blk w g t cs):w.cell? ⟨g,0,none⟩=cs[0]?∧w.cell? ⟨g,1,none⟩=cs[1]?∧w.cell? ⟨g,2,none⟩=cs[2]?∧w.cell? ⟨g,3,none⟩=cs[3]?∧w.cell? ⟨g,4,none⟩=cs[4]?∧w.cell? ⟨g,5,none⟩=cs[5]?∧w.cell? ⟨g,6,none⟩=cs[6]?∧w.cell? ⟨g,7,none⟩=cs[7]?∧w.cell? ⟨g,8,none⟩=cs[8]? :=⟨h.cell 0,h.cell 1,h.cell 2,h.cell 3,h.cell 4,h.cell 5,h.cell 6,h.cell 7,h.cell 8⟩
theorem _root_.zf9 {w:World}{g:Nat}{t:TypeId}{cs:Array Value}(h:Blk w g t cs):w.frozen? ⟨g,0,none⟩=false∧w.frozen? ⟨g,1,none⟩=false∧w.frozen? ⟨g,2,none⟩=false∧w.frozen? ⟨g,3,none⟩=false∧w.frozen? ⟨g,4,none⟩=false∧w.frozen? ⟨g,5,none⟩=false∧w.frozen? ⟨g,6,none⟩=false∧w.frozen? ⟨g,7,none⟩=false∧w.frozen? ⟨g,8,none⟩=false:=⟨h.frozen 0,h.frozen 1,h.frozen 2,h.frozen 3,h.frozen 4,h.frozen 5,h.frozen 6,h.frozen 7,h.frozen 8⟩
theorem _root_.zs9 {P:Nat→Prop}{k:Nat}(h:∀j,j<k→P j)(hk:9≤k:=by decide):P 0∧P 1∧P 2∧P 3∧P 4∧P 5∧P 6∧P 7∧P 8:=⟨h 0 (by omega),h 1 (by omega),h 2 (by omega),h 3 (by omega),h 4 (by omega),h 5 (by omega),h 6 (by omega),h 7 (by omega),h 8 (by omega)⟩
theorem _root_.zc10 {w:World}{g:Nat}{t:TypeId}{cs:Array Value}(h:Blk w g t cs):w.cell? ⟨g,0,none⟩=cs[0]?∧w.cell? ⟨g,1,none⟩=cs[1]?∧w.cell? ⟨g,2,none⟩=cs[2]?∧w.cell? ⟨g,3,none⟩=cs[3]?∧w.cell? ⟨g,4,none⟩=cs[4]?∧w.cell? ⟨g,5,none⟩=cs[5]?∧w.cell? ⟨g,6,none⟩=cs[6]?∧w.cell? ⟨g,7,none⟩=cs[7]?∧w.cell? ⟨g,8,none⟩=cs[8]?∧w.cell? ⟨g,9,none⟩=cs[9]? :=⟨h.cell 0,h.cell 1,h.cell 2,h.cell 3,h.cell 4,h.cell 5,h.cell 6,h.cell 7,h.cell 8,h.cell 9⟩
theorem _root_.zf10 {w:World}{g:Nat}{t:TypeId}{cs:Array Value}(h:Blk w g t cs):w.frozen? ⟨g,0,none⟩=false∧w.frozen? ⟨g,1,none⟩=false∧w.frozen? ⟨g,2,none⟩=false∧w.frozen? ⟨g,3,none⟩=false∧w.frozen? ⟨g,4,none⟩=false∧w.frozen? ⟨g,5,none⟩=false∧w.frozen? ⟨g,6,none⟩=false∧w.frozen? ⟨g,7,none⟩=false∧w.frozen? ⟨g,8,none⟩=false∧w.frozen? ⟨g,9,none⟩=false:=⟨h.frozen 0,h.frozen 1,h.frozen 2,h.frozen 3,h.frozen 4,h.frozen 5,h.frozen 6,h.frozen 7,h.frozen 8,h.frozen 9⟩
theorem _root_.zs10 {P:Nat→Prop}{k:Nat}(h:∀j,j<k→P j)(hk:10≤k:=by decide):P 0∧P 1∧P 2∧P 3∧P 4∧P 5∧P 6∧P 7∧P 8∧P 9:=⟨h 0 (by omega),h 1 (by omega),h 2 (by omega),h 3 (by omega),h 4 (by omega),h 5 (by omega),h 6 (by omega),h 7 (by omega),h 8 (by omega),h 9 (by omega)⟩
theorem _root_.zc11 {w:World}{g:Nat}{t:TypeId}{cs:Array Value}(h:Blk w g t cs):w.cell? ⟨g,0,none⟩=cs[0]?∧w.cell? ⟨g,1,none⟩=cs[1]?∧w.cell? ⟨g,2,none⟩=cs[2]?∧w.cell? ⟨g,3,none⟩=cs[3]?∧w.cell? ⟨g,4,none⟩=cs[4]?∧w.cell? ⟨g,5,none⟩=cs[5]?∧w.cell? ⟨g,6,none⟩=cs[6]?∧w.cell? ⟨g,7,none⟩=cs[7]?∧w.cell? ⟨g,8,none⟩=cs[8]?∧w.cell? ⟨g,9,none⟩=cs[9]?∧w.cell? ⟨g,10,none⟩=cs[10]? :=⟨h.cell 0,h.cell 1,h.cell 2,h.cell 3,h.cell 4,h.cell 5,h.cell 6,h.cell 7,h.cell 8,h.cell 9,h.cell 10⟩
theorem _root_.zf11 {w:World}{g:Nat}{t:TypeId}{cs:Array Value}(h:Blk w g t cs):w.frozen? ⟨g,0,none⟩=false∧w.frozen? ⟨g,1,none⟩=false∧w.frozen? ⟨g,2,none⟩=false∧w.frozen? ⟨g,3,none⟩=false∧w.frozen? ⟨g,4,none⟩=false∧w.frozen? ⟨g,5,none⟩=false∧w.frozen? ⟨g,6,none⟩=false∧w.frozen? ⟨g,7,none⟩=false∧w.frozen? ⟨g,8,none⟩=false∧w.frozen? ⟨g,9,none⟩=false∧w.frozen? ⟨g,10,none⟩=false:=⟨h.frozen 0,h.frozen 1,h.frozen 2,h.frozen 3,h.frozen 4,h.frozen 5,h.frozen 6,h.frozen 7,h.frozen 8,h.frozen 9,h.frozen 10⟩
theorem _root_.zs11 {P:Nat→Prop}{k:Nat}(h:∀j,j<k→P j)(hk:11≤k:=by decide):P 0∧P 1∧P 2∧P 3∧P 4∧P 5∧P 6∧P 7∧P 8∧P 9∧P 10:=⟨h 0 (by omega),h 1 (by omega),h 2 (by omega),h 3 (by omega),h 4 (by omega),h 5 (by omega),h 6 (by omega),h 7 (by omega),h 8 (by omega),h 9 (by omega),h 10 (by omega)⟩
end Go.Proofs.YtnpehjgnplaabaaGreatDoor
namespace Go.Proofs.YtnpehjgnplaabaaGreatDoor
open Go.ChangeShapes Go.WideShapes Go.ChangeAt Go.RowKit
theorem own:ownKnob Tryz.prog.godebug=none:=by kernel_rfl
theorem laidOut:laidOutB Tryz.prog=true:=by kernel_rfl
theorem trodAll_below {H:Type}{enc:TypeId×Value→H}{P:Program}(hl:laidOutB P=true){W W':World}(hb:Below W.heap.size W W'):
  ∀(ts:List TypeId) (vs:List Value) (ds:List (DataW H)) (ps:List MemPlace),(ts.all fun t=>P.readableRec t&&decide (t<P.types.size))=true→
   DataW.TrodAll enc P W 0 (fun _=>true) true ts vs ds ps→(∀x∈ps,x.block<W.heap.size)→DataW.TrodAll enc P W' 0 (fun b=>decide (b<W.heap.size)) true ts vs ds ps:=by
 intro ts;induction ts with
 | nil=>
  intro vs ds ps _ h _;obtain⟨rfl,rfl,rfl⟩:=trodAll_nil h;exact trodAll_mk0
 | cons t ts ih=>
  intro vs ds ps hts h hlt;obtain⟨v,vs',d,ds',p,q,rfl,rfl,rfl,hd,hr⟩:=trodAll_cons h;simp only[List.all_cons,Bool.and_eq_true,decide_eq_true_eq] at hts;exact trodAll_cons_mk (Below.trod hl hts.1.1 hts.1.2 hd hb (fun x hx=>hlt x (zU _ hx)))
   (ih vs' ds' q hts.2 hr (fun x hx=>hlt x (List.mem_append_right _ hx)))
def Walks (K:FuncId) (f:Func):Prop:=
 ∀(H:Type) (enc:TypeId×Value→H) (W:World) (base:Nat) (args:Array Value) (ds:List (DataW H)) (ps:List MemPlace),
  (∀(j:Nat) t v,f.params[j]? =some t→args[j]? =some v→Value.okWide Tryz.prog W .any base t v)→
  DataW.TrodAll enc Tryz.prog W 0 (fun _=>true) true f.params.toList args.toList ds ps→
  (∀x∈ps,x.block<W.heap.size)→
  (DataW.weightsEach Tryz.prog f.params.toList ds).all (·≤reachBytes)=true→
  Calls Tryz.prog K args W fun e W'=>e= .returned (.bool true)∧Below W.heap.size W W'
theorem lifted_laid (K:FuncId)(f:Func)(s:ChangeSpec)(hv:s.vars=[])(hs:∀H (ds:List (DataW H)),ds.length=f.params.size→s.fn H ds={results:=[.lit (.bool true)],args:=ds})
  (hres:f.resultTypes= #[4]) (hread:(f.params.toList.all fun t=>Tryz.prog.readableRec t&&decide (t<Tryz.prog.types.size))=true) (hf:Tryz.prog.funcs[K]? =some f)
  (hinit:Tryz.prog.inits.idxOf? K=none)
  (walk:Walks K f) (os:Os) (started:os.Started) (H:Type) (enc:TypeId×Value→H) (dom:List PathCond) (laid:List (String×DataW Unit))
  (witness:∃(w:World) (tape:Tape) (i:Input),w.os=os∧(w.forCall tape i).Shaped Tryz.checked.prog∧i.vars=[]∧Input.okWide Tryz.checked.prog (w.forCall tape i) .any w.heap.size K i∧
   ((s.pre enc Tryz.checked.prog f dom false (w.forCall tape i).memory i.args∧laidMetH Tryz.prog laid (w.forCall tape i).memory)∧sizedMet enc Tryz.checked.prog f (OpenSpec.ofChange s) false (w.forCall tape i).memory i.args)∧({}:Assume).holds Tryz.checked.prog (lone (Frame.enter Tryz.checked.prog K i.args .normal) [] (w.forCall tape i))):
  ReturnsInHanded {} Tryz.checked os K .any (fun w args=>(s.pre enc Tryz.prog f dom false w args∧laidMetH Tryz.prog laid w)∧sizedMet enc Tryz.prog f (OpenSpec.ofChange s) false w args) (s.post enc Tryz.prog f false true false false):=by
 refine returnsInHanded_of_change_and (C:=Tryz.checked) (X:=fun w _=>laidMetH Tryz.prog laid w) (fun _ _ _ hh h=>h.of_heap hh) own started hinit hf witness ?_;intro W base args ds gs before hval0 hW _ hsz _ _;have hW':=hW;obtain⟨p,q,hA0,hV,rfl,hfz,hnd⟩:=hW;have hA:DataW.TrodAll enc Tryz.prog W 0 (fun _=>true) true f.params.toList args.toList ds p:=hA0;have hlt:∀x∈p,x.block<W.heap.size:=fun x hx=>hW'.lt x (zU _ hx)
 rw[hv] at hV;obtain⟨rfl,rfl⟩:=trodVars_none hV;have hlen:ds.length=f.params.size:=by
  have hg:∀(ts:List TypeId) (vs:List Value) (ds:List (DataW H)) (ps:List MemPlace),DataW.TrodAll enc Tryz.prog W 0 (fun _=>true) true ts vs ds ps→ds.length=ts.length:=by
   intro ts;induction ts with
   | nil=>intro vs ds ps h;obtain⟨rfl,rfl,rfl⟩:=trodAll_nil h;rfl
   | cons t ts ih=>
    intro vs ds ps h;obtain⟨v,vs',d,ds',p,q,rfl,rfl,rfl,hd,hr⟩:=trodAll_cons h;rw[zI,zI,ih _ _ _ hr]
  rw[hg _ _ _ _ hA,Array.length_toList]
 have hsz':(DataW.weightsEach Tryz.prog f.params.toList ds).all (·≤reachBytes)=true:=by
  have e:s.plain.varTypes Tryz.checked.prog=[]:=by
   simp [DataSpec.varTypes,ChangeSpec.plain,hv]
  rw[e,List.append_nil,List.append_nil] at hsz;exact hsz
 refine(walk H enc W base args ds p hval0 hA hlt hsz').mono fun e W' ⟨he,bel⟩=>?_
 subst he;have hsp:s.fn H (ds++[])={results:=[.lit (.bool true)],args:=ds}:=by rw[List.append_nil];exact hs H ds hlen
 refine⟨_,rfl,ds,[],p++[],[],p,[],hW',?_,?_,?_,bel.frame _,fun h=>by cases h⟩
 ·rw[hsp,hres];exact trodAll_mk1 (shut_bool Tryz.underlying4 _)
 ·rw[hsp];exact trodAll_below laidOut bel _ _ _ _ hread hA hlt
 ·rw[hsp,hv];exact rfl
end Go.Proofs.YtnpehjgnplaabaaGreatDoor
namespace Sw
open Go Go.RowKit Go.ChangeShapes Go.WideShapes Go.Deep
def SlOf (w:World) (size:Nat) {α:Type} (E:α→List Value) (A:Option Addr) (l:List α):Prop:=
 0<l.length→∃b off,A=some ⟨b,off,none⟩∧b<w.heap.size∧∀i (h:i<l.length) j,j<size→w.cell? ⟨b,off+i*size+j,none⟩=(E l[i])[j]?
section
variable {w w':World} {size:Nat} {α:Type} {E:α→List Value} {A:Option Addr} {l:List α}
theorem SlOf.nil (w:World)(size:Nat)(E:α→List Value)(A:Option Addr):SlOf w size E A []:=fun h=>absurd h (by simp)
theorem SlOf.below {B:Nat}(h:SlOf w size E A l)(hb:Below B w w')(hB:w.heap.size≤B):SlOf w' size E A l:=fun hn=>by
 obtain⟨b,off,hA,hlt,hc⟩:=h hn;exact⟨b,off,hA,zQ hlt hb.size,fun i hi j hj=>by rw[hb.cell (p:=⟨b,_,none⟩) (by show b<B;omega)];exact hc i hi j hj⟩
theorem SlOf.take (h:SlOf w size E A l)(k:Nat):SlOf w size E A (l.take k):=fun hn=>by
 obtain⟨b,off,hA,hlt,hc⟩:=h (by rw[zL] at hn;omega);exact⟨b,off,hA,hlt,fun i hi j hj=>by
  have hi':i<l.length:=by rw[zL] at hi;omega
  rw[List.getElem_take];exact hc i hi' j hj⟩
end
theorem SlOf.of_blk1 {w:World}{g:Nat}{t:TypeId}{cs:Array Value}{α:Type}{e:α→Value}{l:List α}(h:Blk w g t cs)(hl:cs.toList=l.map e):SlOf w 1 (fun x=>[e x]) (some ⟨g,0,none⟩) l:=
 fun hn=>⟨g,0,rfl,h.lt,fun i hi j hj=>by
  have hj0:j=0:=by omega
  subst hj0;rw[h.cell,←Array.getElem?_toList,hl];simp [zM hi]⟩
theorem add_mk (b off n:Nat):(⟨b,off,none⟩:Addr).add n=⟨b,off+n,none⟩:=by
 unfold Addr.add;split
 ·rename_i h;subst h;rfl
 ·rfl
theorem exists_list {α:Type}{Q:Nat→α→Prop}:∀(n:Nat),(∀i,i<n→∃a,Q i a)→∃l:List α,l.length=n∧∀i (h:i<l.length),Q i l[i]
 | 0,_=>⟨[],rfl,fun i h=>absurd h (by simp)⟩
 | n+1,h=>by
  obtain⟨l,hl,hq⟩:=exists_list n (fun i hi=>h i (by omega));obtain⟨a,ha⟩:=h n (by omega);refine⟨l++[a],by simp [hl],fun i hi=>?_⟩;by_cases hin:i<l.length
  ·rw[List.getElem_append_left hin];exact hq i hin
  ·have:i=n:=by simp [hl] at hi;omega
   subst this;rw[List.getElem_append_right (by omega)]
   simpa [hl] using ha
section
variable {H:Type} {enc:TypeId×Value→H} {P:Program} {w:World}
theorem dec_fields {e:TypeId}{fs:Array Field}{fuel:Nat}{cs:List Value}{x:DataW H×List MemPlace}(he:P.underlying e=some (.struct fs))(hone:oneCellFields P fs=true)(hC:P.cellsOf e=fs.size)
  (h:DataW.trod enc P w 0 (fun _=>true) true fuel e cs=some x):
  cs.length=fs.size∧∀(j:Nat) (f:Field),fs[j]? =some f→∃(c:Value) (n:Nat) (y:DataW H×List MemPlace),cs[j]? =some c∧DataW.trod enc P w 0 (fun _=>true) true n f.type [c]=some y:=by
 obtain⟨ys,n,_,_,hlen,hyl,hf⟩:=DataW.trod_struct he h;refine⟨hlen.trans hC,fun j f hj=>?_⟩;obtain⟨ho,hk⟩:=hone_of hone j f hj;have hjl:j<fs.size:=(Array.getElem?_eq_some_iff.1 hj).1;have hjc:j<cs.length:=by omega
 have h1:=hf j f hj;rw[ho,hk,List.drop_eq_getElem_cons hjc,zM (by omega)] at h1;exact⟨cs[j],n,_,zM hjc,h1⟩
theorem open_array_dec {α:Type}{r:Reach}{b0:Nat}(E:α→Value)(V:α→Prop){t e:TypeId}{v:Value}{d:DataW H}{p:List MemPlace}{n:Nat}(ht:P.underlying t=some (.array n e))(hC:P.cellsOf e=1)(hT:P.cellsOf t=n)
  (hdec:∀fuel c x,DataW.trod enc P w 0 (fun _=>true) true fuel e [c]=some x→∃a:α,c=E a∧V a)
  (hv:Value.okWide P w r b0 t v) (h:DataW.Trod enc P w 0 (fun _=>true) true t v d p):
  ∃(l:List α),v= .agg (l.map E).toArray∧l.length=n∧∀a∈l,V a:=by
 simp only[Value.okWide,ht] at hv;obtain⟨cs,rfl,hsz,_⟩:=hv;obtain⟨fuel,hf⟩:=h;obtain⟨xs,m,_,_,hlen,hxl,hi⟩:=DataW.trod_array ht hf;have hcl:cs.toList.length=n:=by rw[←hT];exact hlen
 obtain⟨l,hl,hq⟩:=exists_list (Q:=fun i (x:α)=>V x∧cs.toList[i]? =some (E x)) n (fun i hin=>by
  have h1:=hi i hin;rw[hC,Nat.mul_one] at h1;have h2:(cs.toList.drop i).take 1=[cs.toList[i]'(by omega)]:=by rw[List.drop_eq_getElem_cons (by omega)];rfl
  rw[show(Value.agg cs).cells=cs from rfl,h2,zM (by omega)] at h1;obtain⟨a,ha,hva⟩:=hdec _ _ _ h1;exact⟨a,hva,by rw[zM (by omega),ha]⟩)
 refine⟨l,?_,hl,fun a ha=>?_⟩
 ·congr 1
  apply Array.ext';apply List.ext_getElem?;intro i;by_cases hin:i<n
  ·rw[(hq i (by omega)).2];simp [zM (show i<l.length by omega)]
  ·rw[List.getElem?_eq_none (by omega),List.getElem?_eq_none (by simp;omega)]
 ·obtain⟨i,hi',rfl⟩:=List.getElem_of_mem ha;exact(hq i hi').1
end
end Sw
namespace Sw
open Go
def mkB (l:List UInt8):ByteArray:=⟨l.toArray⟩
theorem mkB_data (b:ByteArray):mkB b.data.toList=b:=by
 apply ByteArray.ext;simp [mkB]
theorem data_mkB (l:List UInt8):(mkB l).data.toList=l:=by simp [mkB]
theorem mkB_size (l:List UInt8):(mkB l).size=l.length:=by
 show l.toArray.size=l.length
 simp
def uN (c:Nat):Nat:=if c<128 then 1 else if 194≤c∧c≤223 then 2 else if 224≤c∧c≤239 then 3 else if 240≤c∧c≤244 then 4 else 0
def uLo (c:Nat):Nat:=if c=224 then 160 else if c=240 then 144 else 128
def uHi (c:Nat):Nat:=if c=237 then 159 else if c=244 then 143 else 191
def utfD:Nat→Nat→Nat→List UInt8→Bool
 | 0,_,_,[]=>true
 | _+1,_,_,[]=>false
 | 0,_,_,c::l=>if uN c.toNat=0 then false else utfD (uN c.toNat-1) (uLo c.toNat) (uHi c.toNat) l
 | n+1,lo,hi,b::l=>if lo≤b.toNat∧b.toNat≤hi then utfD n 128 191 l else false
theorem utfD_nil (lo hi:Nat):utfD 0 lo hi []=true:=by rw[utfD]
theorem utfD_head (lo hi:Nat)(c:UInt8)(l:List UInt8):utfD 0 lo hi (c::l)=if uN c.toNat=0 then false else utfD (uN c.toNat-1) (uLo c.toNat) (uHi c.toNat) l:=by rw[utfD]
theorem utfD_next (n lo hi:Nat)(b:UInt8)(l:List UInt8):utfD (n+1) lo hi (b::l)=if lo≤b.toNat∧b.toNat≤hi then utfD n 128 191 l else false:=by rw[utfD]
theorem utfD_zero (lo hi:Nat)(l:List UInt8):utfD 0 lo hi l=utfD 0 0 0 l:=by
 cases l with
 | nil=>rw[utfD_nil,utfD_nil]
 | cons c l=>rw[utfD_head,utfD_head]
theorem utfD_short:∀(l:List UInt8) (n lo hi:Nat),l.length<n→utfD n lo hi l=false
 | [],n+1,lo,hi,_=>by rw[utfD]
 | b::l,n+1,lo,hi,h=>by
  rw[utfD_next];have:=utfD_short l n 128 191 (by simpa using h);rw[this];simp
theorem utfD_at (X:ByteArray)(k lo hi i:Nat)(h:i<X.size):utfD (k+1) lo hi (X.data.toList.drop i)=if lo≤X[i].toNat∧X[i].toNat≤hi then utfD k 128 191 (X.data.toList.drop (i+1)) else false:=by
 rw[List.drop_eq_getElem_cons (by simpa using h),utfD_next];rfl
theorem utfD_at0 (X:ByteArray)(lo hi i:Nat)(h:i<X.size):utfD 0 lo hi (X.data.toList.drop i)=if uN X[i].toNat=0 then false else utfD (uN X[i].toNat-1) (uLo X[i].toNat) (uHi X[i].toNat) (X.data.toList.drop (i+1)):=by
 rw[List.drop_eq_getElem_cons (by simpa using h),utfD_head];rfl
theorem utfD_at_short (X:ByteArray)(n lo hi i:Nat)(h:X.size<i+n)(hi':i≤X.size):utfD n lo hi (X.data.toList.drop i)=false:=by
 refine utfD_short _ n lo hi ?_;rw[List.length_drop];have:X.data.toList.length=X.size:=by simp
 omega
theorem utfD_at_end (X:ByteArray)(lo hi:Nat):utfD 0 lo hi (X.data.toList.drop X.size)=true:=by
 rw[List.drop_of_length_le (by simp),utfD_nil]
theorem uN_le (c:Nat):uN c≤4:=by
 unfold uN
 (repeat' split)<;>omega
theorem uLo_le (c:Nat):uLo c≤160∧uHi c≤191∧128≤uLo c:=by
 unfold uLo uHi;refine⟨?_,?_,?_⟩<;>(repeat' split)<;>omega
theorem ext_drop (X:ByteArray)(n:Nat):(X.extract n X.size).data.toList=X.data.toList.drop n:=by
 rw[ByteArray.data_extract,Array.toList_extract,List.extract_eq_take_drop];exact zO (by simp)
def okB (b:UInt8):Bool:= !(decide (b.toNat<32)||decide (b.toNat=127)||decide (b.toNat=47)||decide (b.toNat=92)||decide (b.toNat=58))
def partL (l:List UInt8):Bool:=l.all okB&&decide (1≤l.length∧l.length≤60)&&decide (l≠[46])&&decide (l≠[46,46])&&utfD 0 0 0 l
theorem partL_bad {l:List UInt8}{i:Nat}(h:i<l.length)(hb:okB l[i]=false):partL l=false:=by
 have:l.all okB=false:=by
  rw[List.all_eq_false];exact⟨l[i],zP h,by simp [hb]⟩
 unfold partL;rw[this];simp
def spL:List UInt8→List (List UInt8)
 | []=>[[]]
 | b::l=>if b=47 then []::spL l else(b::(spL l).headD [])::(spL l).tail
theorem spL_ne (l:List UInt8):spL l≠[]:=by
 cases l with
 | nil=>simp [spL]
 | cons b l=>rw[spL];split<;>simp
theorem spL_head (l:List UInt8):(spL l).headD []::(spL l).tail=spL l:=by
 cases h:spL l with
 | nil=>exact absurd h (spL_ne l)
 | cons a t=>rfl
theorem spL_slash (l:List UInt8):spL (47::l)=[]::spL l:=by rw[spL,if_pos rfl]
theorem spL_app:∀(a r:List UInt8),(47:UInt8)∉a→spL (a++47::r)=a::spL r
 | [],r,_=>spL_slash r
 | b::a,r,h=>by
  rw[List.mem_cons,not_or] at h;rw[List.cons_append,spL,if_neg (fun e=>h.1 e.symm),spL_app a r h.2];rfl
theorem spL_none:∀(a:List UInt8),(47:UInt8)∉a→spL a=[a]
 | [],_=>rfl
 | b::a,h=>by
  rw[List.mem_cons,not_or] at h;rw[spL,if_neg (fun e=>h.1 e.symm),spL_none a h.2];rfl
theorem spL_no:∀(l:List UInt8),∀x∈spL l,(47:UInt8)∉x
 | [],x,h=>by
  rw[spL,List.mem_singleton] at h;rw[h];simp
 | b::l,x,h=>by
  rw[spL] at h;split at h
  ·rw[List.mem_cons] at h;rcases h with rfl | h
   ·simp
   ·exact spL_no l x h
  ·rename_i hb
   rw[List.mem_cons] at h;rcases h with rfl | h
   ·rw[List.mem_cons,not_or];refine⟨fun e=>hb e.symm,?_⟩;have hm:(spL l).headD []∈spL l:=by
     cases he:spL l with
     | nil=>exact absurd he (spL_ne l)
     | cons a t=>exact List.mem_cons_self
    exact spL_no l _ hm
   ·have hm:x∈spL l:=by
     rw[←spL_head l];exact List.mem_cons_of_mem _ h
    exact spL_no l x hm
def jnL:List (List UInt8)→List UInt8
 | []=>[]
 | [x]=>x
 | x::y::l=>x++47::jnL (y::l)
theorem jnL_cons (x:List UInt8)(l:List (List UInt8))(h:l≠[]):jnL (x::l)=x++47::jnL l:=by
 cases l with
 | nil=>exact absurd rfl h
 | cons y l=>rw[jnL]
theorem jnL_snoc (x:List UInt8):∀(l:List (List UInt8)),l≠[]→jnL (l++[x])=jnL l++47::x
 | [],h=>absurd rfl h
 | [a],_=>rfl
 | a::b::l,_=>by
  rw[List.cons_append,jnL_cons a _ (by simp),jnL_snoc x (b::l) (by simp),jnL_cons a (b::l) (by simp)];simp
theorem jnL_spL:∀l:List UInt8,jnL (spL l)=l
 | []=>rfl
 | b::l=>by
  have ih:=jnL_spL l;rw[spL];split
  ·rename_i hb
   rw[jnL_cons _ _ (spL_ne l),ih,hb];rfl
  ·rw[←spL_head l] at ih;generalize (spL l).headD []=x at*;generalize (spL l).tail=t at*;cases t with
   | nil=>
    rw[jnL] at ih⊢;rw[ih]
   | cons y t=>
    rw[jnL] at ih⊢;rw[←ih];rfl
theorem spL_jnL:∀(l:List (List UInt8)),l≠[]→(∀x∈l,(47:UInt8)∉x)→spL (jnL l)=l
 | [],h,_=>absurd rfl h
 | [x],_,h=>by rw[jnL];exact spL_none x (h x (by simp))
 | x::y::l,_,h=>by
  rw[jnL_cons x _ (by simp),spL_app x _ (h x (by simp)),spL_jnL (y::l) (by simp) (fun z hz=>h z (List.mem_cons_of_mem _ hz))]
def resL:List UInt8:=[46,115,119,105,110,103,108,101]
def rightL (p:List UInt8):Bool:=decide (p.length≤200)&&decide ((spL p).length≤12)&&decide ((spL p).headD []≠resL)&&(spL p).all partL
end Sw
namespace Sw
open Go Go.RowKit
def SlV (w:World) (size:Nat) {α:Type} (E:α→List Value) (v:Value) (l:List α):Prop:=∃A c,v= .slice A l.length c∧l.length≤c∧c≤maxLen∧SlOf w size E A l
theorem flat_get {α β:Type}{E:α→List β}{size:Nat}(hE:∀x,(E x).length=size):∀(l:List α) (i:Nat) (h:i<l.length) (j:Nat),j<size→(l.flatMap E)[i*size+j]? =(E l[i])[j]?
 | [],i,h,_,_=>absurd h (by simp)
 | a::l,0,_,j,hj=>by
  rw[List.flatMap_cons,Nat.zero_mul,Nat.zero_add,List.getElem?_append_left (by rw[hE];exact hj)];rfl
 | a::l,i+1,h,j,hj=>by
  rw[List.flatMap_cons,List.getElem?_append_right (by rw[hE,Nat.add_mul];omega),hE];have:=flat_get hE l i (by simpa using h) j hj;rw[show(i+1)*size+j-size=i*size+j by rw[Nat.add_mul];omega,this];rfl
theorem flat_len {α β:Type}{E:α→List β}{size:Nat}(hE:∀x,(E x).length=size):∀l:List α,(l.flatMap E).length=l.length*size
 | []=>by simp
 | a::l=>by rw[List.flatMap_cons,zF,hE,flat_len hE l,zI,Nat.add_mul];omega
theorem SlV.of_own {w:World}{base:Nat}{e:TypeId}{size n:Nat}{v:Value}{α:Type}{E:α→List Value}{l:List α}(h:w.ownsRow base e size v n (l.flatMap E))(hE:∀x,(E x).length=size)(hs:0<size):SlV w size E v l:=by
 have hn:l.length=n:=by
  have:=h.1;rw[flat_len hE] at this;exact Nat.eq_of_mul_eq_mul_right hs this
 subst hn;rcases h.2 with ⟨rfl,h0⟩ | ⟨g,cap,cur,rfl,hb,hh,hc,hm,hsz,hx⟩
 ·refine⟨none,0,by rw[h0],by omega,by simp [maxLen],fun hp=>by omega⟩
 ·refine⟨_,cap,rfl,hc,hm,fun hp=>⟨g,0,rfl,(Array.getElem?_eq_some_iff.1 hh).1,fun i hi j hj=>?_⟩⟩;have hlt:i*size+j<l.length*size:=by
   have:(i+1)*size≤l.length*size:=Nat.mul_le_mul_right size hi;rw[Nat.add_mul] at this;omega
  rw[cell_of_row w g _ cur e (0,0) hh,Nat.zero_add,←flat_get hE l i hi j hj,←hx,List.getElem?_take,if_pos hlt,Array.getElem?_toList]
theorem SlV.below {w w':World}{size B:Nat}{α:Type}{E:α→List Value}{v:Value}{l:List α}(h:SlV w size E v l)(hb:Below B w w')(hB:w.heap.size≤B):SlV w' size E v l:=by
 obtain⟨A,c,rfl,h1,h2,h3⟩:=h;exact⟨A,c,rfl,h1,h2,h3.below hb hB⟩
section
open Go.ChangeShapes Go.WideShapes Go.Deep
variable {H:Type} {enc:TypeId×Value→H} {P:Program} {w:World}
end
theorem blk_snd (w:World)(o:Obj)(c:Array Value)(t:TypeId):Blk ((w.alloc o).alloc (.cells c t)) (w.heap.size+1) t c:=by
 have h:=Blk.new (w.alloc o) t c;rw[World.size_alloc] at h;exact h
theorem blk_trd (w:World)(o p:Obj)(c:Array Value)(t:TypeId):Blk (((w.alloc o).alloc p).alloc (.cells c t)) (w.heap.size+1+1) t c:=by
 have h:=blk_snd (w.alloc o) p c t;rw[World.size_alloc] at h;exact h
theorem blk_mid (w:World)(o:Obj)(c:Array Value)(t:TypeId)(p:Obj):Blk (((w.alloc o).alloc (.cells c t)).alloc p) (w.heap.size+1) t c:=(blk_snd w o c t).alloc p
theorem blk_fst (w:World)(c:Array Value)(t:TypeId)(o:Obj):Blk ((w.alloc (.cells c t)).alloc o) w.heap.size t c:=(Blk.new w t c).alloc _
end Sw
namespace Go.Proofs.YtnpehjgnplaabaaGreatDoor
open Go Go.RowKit
open Sw
theorem res3 {P:Program}{fn:Func}{a b c:Tmp}(h:fn.results= #[.tmp a,.tmp b,.tmp c])(tmps:Array Value)(w:World):(results fn tmps).run P w= .ok (.tuple #[tmps.getD a undef,tmps.getD b undef,tmps.getD c undef]) w:=by
 simp [results,h]
def uL (c:Nat):Nat:=if uN c≤1 then 0 else uLo c
def uH (c:Nat):Nat:=if uN c≤1 then 0 else uHi c
theorem letter_any (w:World)(s:ByteArray)(hs:s.size≤1000000)(h0:0<s.size):
  Calls Tryz.prog 192 #[.string s] w fun e w'=>e= .returned (.tuple #[.int .i64 (uN s[0].toNat),.int .u8 (uL s[0].toNat),.int .u8 (uH s[0].toNat)])∧w=w':=by
 have hc6:s[0].toNat<256:=s[0].toNat_lt;have HC:=zH (show∀c:Nat,uN c=(if c<128 then 1 else if 194≤c∧c≤223 then 2 else if 224≤c∧c≤239 then 3 else if 240≤c∧c≤244 then 4 else 0)∧uL c=(if uN c≤1 then 0 else if c=224 then 160 else if c=240 then 144 else 128)∧uH c=(if uN c≤1 then 0 else if c=237 then 159 else if c=244 then 143 else 191) from fun c=>⟨rfl,rfl,rfl⟩);generalize hc:s[0].toNat=c at*;have hcI:((s[0].toNat:Nat):Int)=c:=by rw[hc]
 clear hc;have cases11:(0≤c∧c≤127)∨(128≤c∧c≤193)∨(194≤c∧c≤223)∨(224≤c∧c≤224)∨(225≤c∧c≤236)∨(237≤c∧c≤237)∨(238≤c∧c≤239)∨(240≤c∧c≤240)∨(241≤c∧c≤243)∨(244≤c∧c≤244)∨(245≤c∧c≤255):=by omega
 rcases cases11 with ⟨r0,r1⟩ | ⟨r0,r1⟩ | ⟨r0,r1⟩ | ⟨r0,r1⟩ | ⟨r0,r1⟩ | ⟨r0,r1⟩ | ⟨r0,r1⟩ | ⟨r0,r1⟩ | ⟨r0,r1⟩ | ⟨r0,r1⟩ | ⟨r0,r1⟩
 ·have q:uN c=1∧uL c=0∧uH c=0:=by
   obtain⟨q1,q2,q3⟩:=HC.out c;(have q0:uN c=1:=by rw[q1];(repeat' split)<;>omega);rw[q0] at q2 q3;refine⟨q0,?_,?_⟩
   ·rw[q2];(repeat' split)<;>omega
   ·rw[q3];(repeat' split)<;>omega
  obtain⟨t1,t2,t3,t4,t5,t6,t7⟩:(c:Int)<(128:Int)∧¬(194:Int)≤(c:Int)∧(c:Int)≤(223:Int)∧¬(225:Int)≤(c:Int)∧(c:Int)≤(239:Int)∧¬(241:Int)≤(c:Int)∧(c:Int)≤(243:Int):=by omega
  obtain⟨e224,e237,e240,e244⟩:((c:Int)==224)=false∧((c:Int)==237)=false∧((c:Int)==240)=false∧((c:Int)==244)=false:=by simp only[zB];omega
  have HQ:=zH q;clear q r0 r1;go_enter Tryz.func192,Tryz.ntmps192
  go_wp2_with fail
  refine bodyPost_ret (res3 rfl _ _) rfl ⟨?_,rfl⟩;rw[HQ.out.1,HQ.out.2.1,HQ.out.2.2];rfl
 ·have q:uN c=0∧uL c=0∧uH c=0:=by
   obtain⟨q1,q2,q3⟩:=HC.out c;(have q0:uN c=0:=by rw[q1];(repeat' split)<;>omega);rw[q0] at q2 q3;refine⟨q0,?_,?_⟩
   ·rw[q2];(repeat' split)<;>omega
   ·rw[q3];(repeat' split)<;>omega
  obtain⟨t1,t2,t3,t4,t5,t6,t7⟩:¬(c:Int)<(128:Int)∧¬(194:Int)≤(c:Int)∧(c:Int)≤(223:Int)∧¬(225:Int)≤(c:Int)∧(c:Int)≤(239:Int)∧¬(241:Int)≤(c:Int)∧(c:Int)≤(243:Int):=by omega
  obtain⟨e224,e237,e240,e244⟩:((c:Int)==224)=false∧((c:Int)==237)=false∧((c:Int)==240)=false∧((c:Int)==244)=false:=by simp only[zB];omega
  have HQ:=zH q;clear q r0 r1;go_enter Tryz.func192,Tryz.ntmps192
  go_wp2_with fail
  refine bodyPost_ret (res3 rfl _ _) rfl ⟨?_,rfl⟩;rw[HQ.out.1,HQ.out.2.1,HQ.out.2.2];rfl
 ·have q:uN c=2∧uL c=128∧uH c=191:=by
   obtain⟨q1,q2,q3⟩:=HC.out c;(have q0:uN c=2:=by rw[q1];(repeat' split)<;>omega);rw[q0] at q2 q3;refine⟨q0,?_,?_⟩
   ·rw[q2];(repeat' split)<;>omega
   ·rw[q3];(repeat' split)<;>omega
  obtain⟨t1,t2,t3,t4,t5,t6,t7⟩:¬(c:Int)<(128:Int)∧(194:Int)≤(c:Int)∧(c:Int)≤(223:Int)∧¬(225:Int)≤(c:Int)∧(c:Int)≤(239:Int)∧¬(241:Int)≤(c:Int)∧(c:Int)≤(243:Int):=by omega
  obtain⟨e224,e237,e240,e244⟩:((c:Int)==224)=false∧((c:Int)==237)=false∧((c:Int)==240)=false∧((c:Int)==244)=false:=by simp only[zB];omega
  have HQ:=zH q;clear q r0 r1;go_enter Tryz.func192,Tryz.ntmps192
  go_wp2_with fail
  refine bodyPost_ret (res3 rfl _ _) rfl ⟨?_,rfl⟩;rw[HQ.out.1,HQ.out.2.1,HQ.out.2.2];rfl
 ·have q:uN c=3∧uL c=160∧uH c=191:=by
   obtain⟨q1,q2,q3⟩:=HC.out c;(have q0:uN c=3:=by rw[q1];(repeat' split)<;>omega);rw[q0] at q2 q3;refine⟨q0,?_,?_⟩
   ·rw[q2];(repeat' split)<;>omega
   ·rw[q3];(repeat' split)<;>omega
  obtain⟨t1,t2,t3,t4,t5,t6,t7⟩:¬(c:Int)<(128:Int)∧(194:Int)≤(c:Int)∧¬(c:Int)≤(223:Int)∧¬(225:Int)≤(c:Int)∧(c:Int)≤(239:Int)∧¬(241:Int)≤(c:Int)∧(c:Int)≤(243:Int):=by omega
  have e224:((c:Int)==224)=true:=by rw[beq_iff_eq];omega
  obtain⟨e237,e240,e244⟩:((c:Int)==237)=false∧((c:Int)==240)=false∧((c:Int)==244)=false:=by simp only[zB];omega
  have HQ:=zH q;clear q r0 r1;go_enter Tryz.func192,Tryz.ntmps192
  go_wp2_with fail
  refine bodyPost_ret (res3 rfl _ _) rfl ⟨?_,rfl⟩;rw[HQ.out.1,HQ.out.2.1,HQ.out.2.2];rfl
 ·have q:uN c=3∧uL c=128∧uH c=191:=by
   obtain⟨q1,q2,q3⟩:=HC.out c;(have q0:uN c=3:=by rw[q1];(repeat' split)<;>omega);rw[q0] at q2 q3;refine⟨q0,?_,?_⟩
   ·rw[q2];(repeat' split)<;>omega
   ·rw[q3];(repeat' split)<;>omega
  obtain⟨t1,t2,t3,t4,t5,t6,t7⟩:¬(c:Int)<(128:Int)∧(194:Int)≤(c:Int)∧¬(c:Int)≤(223:Int)∧(225:Int)≤(c:Int)∧(c:Int)≤(239:Int)∧¬(241:Int)≤(c:Int)∧(c:Int)≤(243:Int):=by omega
  obtain⟨e224,e237,e240,e244⟩:((c:Int)==224)=false∧((c:Int)==237)=false∧((c:Int)==240)=false∧((c:Int)==244)=false:=by simp only[zB];omega
  have HQ:=zH q;clear q r0 r1;go_enter Tryz.func192,Tryz.ntmps192
  go_wp2_with fail
  refine bodyPost_ret (res3 rfl _ _) rfl ⟨?_,rfl⟩;rw[HQ.out.1,HQ.out.2.1,HQ.out.2.2];rfl
 ·have q:uN c=3∧uL c=128∧uH c=159:=by
   obtain⟨q1,q2,q3⟩:=HC.out c;(have q0:uN c=3:=by rw[q1];(repeat' split)<;>omega);rw[q0] at q2 q3;refine⟨q0,?_,?_⟩
   ·rw[q2];(repeat' split)<;>omega
   ·rw[q3];(repeat' split)<;>omega
  obtain⟨t1,t2,t3,t4,t5,t6,t7⟩:¬(c:Int)<(128:Int)∧(194:Int)≤(c:Int)∧¬(c:Int)≤(223:Int)∧(225:Int)≤(c:Int)∧(c:Int)≤(239:Int)∧¬(241:Int)≤(c:Int)∧(c:Int)≤(243:Int):=by omega
  have e224:((c:Int)==224)=false:=by rw[zB];omega
  have e237:((c:Int)==237)=true:=by rw[beq_iff_eq];omega
  obtain⟨e240,e244⟩:((c:Int)==240)=false∧((c:Int)==244)=false:=by simp only[zB];omega
  have HQ:=zH q;clear q r0 r1;go_enter Tryz.func192,Tryz.ntmps192
  go_wp2_with fail
  refine bodyPost_ret (res3 rfl _ _) rfl ⟨?_,rfl⟩;rw[HQ.out.1,HQ.out.2.1,HQ.out.2.2];rfl
 ·have q:uN c=3∧uL c=128∧uH c=191:=by
   obtain⟨q1,q2,q3⟩:=HC.out c;(have q0:uN c=3:=by rw[q1];(repeat' split)<;>omega);rw[q0] at q2 q3;refine⟨q0,?_,?_⟩
   ·rw[q2];(repeat' split)<;>omega
   ·rw[q3];(repeat' split)<;>omega
  obtain⟨t1,t2,t3,t4,t5,t6,t7⟩:¬(c:Int)<(128:Int)∧(194:Int)≤(c:Int)∧¬(c:Int)≤(223:Int)∧(225:Int)≤(c:Int)∧(c:Int)≤(239:Int)∧¬(241:Int)≤(c:Int)∧(c:Int)≤(243:Int):=by omega
  obtain⟨e224,e237,e240,e244⟩:((c:Int)==224)=false∧((c:Int)==237)=false∧((c:Int)==240)=false∧((c:Int)==244)=false:=by simp only[zB];omega
  have HQ:=zH q;clear q r0 r1;go_enter Tryz.func192,Tryz.ntmps192
  go_wp2_with fail
  refine bodyPost_ret (res3 rfl _ _) rfl ⟨?_,rfl⟩;rw[HQ.out.1,HQ.out.2.1,HQ.out.2.2];rfl
 ·have q:uN c=4∧uL c=144∧uH c=191:=by
   obtain⟨q1,q2,q3⟩:=HC.out c;(have q0:uN c=4:=by rw[q1];(repeat' split)<;>omega);rw[q0] at q2 q3;refine⟨q0,?_,?_⟩
   ·rw[q2];(repeat' split)<;>omega
   ·rw[q3];(repeat' split)<;>omega
  obtain⟨t1,t2,t3,t4,t5,t6,t7⟩:¬(c:Int)<(128:Int)∧(194:Int)≤(c:Int)∧¬(c:Int)≤(223:Int)∧(225:Int)≤(c:Int)∧¬(c:Int)≤(239:Int)∧¬(241:Int)≤(c:Int)∧(c:Int)≤(243:Int):=by omega
  obtain⟨e224,e237⟩:((c:Int)==224)=false∧((c:Int)==237)=false:=by simp only[zB];omega
  have e240:((c:Int)==240)=true:=by rw[beq_iff_eq];omega
  have e244:((c:Int)==244)=false:=by rw[zB];omega
  have HQ:=zH q;clear q r0 r1;go_enter Tryz.func192,Tryz.ntmps192
  go_wp2_with fail
  refine bodyPost_ret (res3 rfl _ _) rfl ⟨?_,rfl⟩;rw[HQ.out.1,HQ.out.2.1,HQ.out.2.2];rfl
 ·have q:uN c=4∧uL c=128∧uH c=191:=by
   obtain⟨q1,q2,q3⟩:=HC.out c;(have q0:uN c=4:=by rw[q1];(repeat' split)<;>omega);rw[q0] at q2 q3;refine⟨q0,?_,?_⟩
   ·rw[q2];(repeat' split)<;>omega
   ·rw[q3];(repeat' split)<;>omega
  obtain⟨t1,t2,t3,t4,t5,t6,t7⟩:¬(c:Int)<(128:Int)∧(194:Int)≤(c:Int)∧¬(c:Int)≤(223:Int)∧(225:Int)≤(c:Int)∧¬(c:Int)≤(239:Int)∧(241:Int)≤(c:Int)∧(c:Int)≤(243:Int):=by omega
  obtain⟨e224,e237,e240,e244⟩:((c:Int)==224)=false∧((c:Int)==237)=false∧((c:Int)==240)=false∧((c:Int)==244)=false:=by simp only[zB];omega
  have HQ:=zH q;clear q r0 r1;go_enter Tryz.func192,Tryz.ntmps192
  go_wp2_with fail
  refine bodyPost_ret (res3 rfl _ _) rfl ⟨?_,rfl⟩;rw[HQ.out.1,HQ.out.2.1,HQ.out.2.2];rfl
 ·have q:uN c=4∧uL c=128∧uH c=143:=by
   obtain⟨q1,q2,q3⟩:=HC.out c;(have q0:uN c=4:=by rw[q1];(repeat' split)<;>omega);rw[q0] at q2 q3;refine⟨q0,?_,?_⟩
   ·rw[q2];(repeat' split)<;>omega
   ·rw[q3];(repeat' split)<;>omega
  obtain⟨t1,t2,t3,t4,t5,t6,t7⟩:¬(c:Int)<(128:Int)∧(194:Int)≤(c:Int)∧¬(c:Int)≤(223:Int)∧(225:Int)≤(c:Int)∧¬(c:Int)≤(239:Int)∧(241:Int)≤(c:Int)∧¬(c:Int)≤(243:Int):=by omega
  obtain⟨e224,e237,e240⟩:((c:Int)==224)=false∧((c:Int)==237)=false∧((c:Int)==240)=false:=by simp only[zB];omega
  have e244:((c:Int)==244)=true:=by rw[beq_iff_eq];omega
  have HQ:=zH q;clear q r0 r1;go_enter Tryz.func192,Tryz.ntmps192
  go_wp2_with fail
  refine bodyPost_ret (res3 rfl _ _) rfl ⟨?_,rfl⟩;rw[HQ.out.1,HQ.out.2.1,HQ.out.2.2];rfl
 ·have q:uN c=0∧uL c=0∧uH c=0:=by
   obtain⟨q1,q2,q3⟩:=HC.out c;(have q0:uN c=0:=by rw[q1];(repeat' split)<;>omega);rw[q0] at q2 q3;refine⟨q0,?_,?_⟩
   ·rw[q2];(repeat' split)<;>omega
   ·rw[q3];(repeat' split)<;>omega
  obtain⟨t1,t2,t3,t4,t5,t6,t7⟩:¬(c:Int)<(128:Int)∧(194:Int)≤(c:Int)∧¬(c:Int)≤(223:Int)∧(225:Int)≤(c:Int)∧¬(c:Int)≤(239:Int)∧(241:Int)≤(c:Int)∧¬(c:Int)≤(243:Int):=by omega
  obtain⟨e224,e237,e240,e244⟩:((c:Int)==224)=false∧((c:Int)==237)=false∧((c:Int)==240)=false∧((c:Int)==244)=false:=by simp only[zB];omega
  have HQ:=zH q;clear q r0 r1;go_enter Tryz.func192,Tryz.ntmps192
  go_wp2_with fail
  refine bodyPost_ret (res3 rfl _ _) rfl ⟨?_,rfl⟩;rw[HQ.out.1,HQ.out.2.1,HQ.out.2.2];rfl
def strSz:Value→Nat
 | .string s=>s.size
 | _=>0
theorem letters_any (w:World)(s:ByteArray)(hs:s.size≤1000000):
  Calls Tryz.prog 163 #[.string s] w fun e w'=>e= .returned (.bool (utfD 0 0 0 s.data.toList))∧w=w':=by
 obtain⟨U,hU⟩:∃U,utfD 0 0 0 s.data.toList=U:=⟨_,rfl⟩;rw[hU];go_enter Tryz.func163,Tryz.ntmps163
 go_wp2_with fail
 go_loopw [0,2,3,4,5,6] (fun x r _ _ _ _ wr=>∃X:ByteArray,x= .string X∧r= .bool false∧X.size≤s.size∧utfD 0 0 0 X.data.toList=U∧w=wr) (fun x _ _ _ _ _ _=>strSz x)
 case atStart=>exact⟨s,rfl,rfl,zN _,hU,rfl⟩
 case round=>
  obtain⟨X,rfl,rfl,hX,hu,rfl⟩:=hrel;by_cases h0:X.size=0
  ·have hl:X.data.toList=[]:=List.length_eq_zero_iff.1 (by simpa using h0);have hne:X.toList.isEmpty=true:=by rw[ByteArray.toList_eq,hl];rfl
   rw[hl,utfD_nil] at hu;have HU:=zH hu.symm;clear hu hl;(go_wp2_with fail);go_ret;exact⟨by rw[HU.out];first | done | rfl,rfl⟩
  ·have hp:0<X.size:=by omega
   have hne:X.toList.isEmpty=false:=by
    rw[ByteArray.toList_eq];cases hd:X.data.toList with
    | nil=>exact absurd (by have:=congrArg List.length hd;simpa using this) h0
    | cons a l=>rfl
   have hu0:utfD 0 0 0 (X.data.toList.drop 0)=U:=hu;rw[utfD_at0 X 0 0 0 hp] at hu0;have hL:=letter_any w X (by omega) hp;have hn4:=uN_le X[0].toNat;have hlo:=uLo_le X[0].toNat;have hLd:uN X[0].toNat≤1∨(uL X[0].toNat=uLo X[0].toNat∧uH X[0].toNat=uHi X[0].toNat):=by
    unfold uL uH;by_cases h:uN X[0].toNat≤1
    ·exact .inl h
    ·exact .inr ⟨by rw[if_neg h],by rw[if_neg h]⟩
   generalize uN X[0].toNat=N at*;generalize uL X[0].toNat=a at*;generalize uH X[0].toNat=b at*;generalize uLo X[0].toNat=lo at*;generalize uHi X[0].toNat=hi at*;have HL:=zH hL;clear hL;have HU:=zH hu0;clear hu0 hu;by_cases hN0:N=0
   ·subst hN0;have HF:=zH (show U=false by rw[←HU.out,if_pos rfl]);(go_wp2_with fail);refine HL.out.mono ?_;rintro e w1 ⟨rfl,rfl⟩;(go_wp2_with fail);go_ret;exact⟨by rw[HF.out];first | done | rfl,rfl⟩
   (have hNb:((N:Int)==0)=false:=by rw[zB];omega);by_cases hNl:X.size<N
   ·have HF:=zH (show U=false by rw[←HU.out,if_neg hN0,utfD_at_short X _ _ _ _ (by omega) (by omega)]);(go_wp2_with fail);refine HL.out.mono ?_;rintro e w1 ⟨rfl,rfl⟩;(go_wp2_with fail);go_ret;exact⟨by rw[HF.out];first | done | rfl,rfl⟩
   by_cases hbad:∃h:1<X.size,2≤N∧(X[1].toNat<a∨b<X[1].toNat)
   ·obtain⟨h1X,h2N,hb⟩:=hbad;obtain⟨hab1,hab2⟩:a=lo∧b=hi:=by
     rcases hLd with h | h
     ·omega
     ·exact h
    subst hab1 hab2;obtain⟨M,rfl⟩:∃M,N=M+2:=⟨N-2,by omega⟩;have h1:=HU.out;rw[if_neg hN0,show M+2-1=M+1 by omega,Nat.zero_add,utfD_at X M a b 1 h1X,if_neg (by omega)] at h1;have HF:=zH h1.symm;clear h1 HU;generalize hx1:X[1].toNat=x1 at*;(have hx1I:((X[1].toNat:Nat):Int)=x1:=by rw[hx1]);clear hx1;(have hN1I:(1:Int)<((M+2:Nat):Int):=by omega);by_cases hA:x1<a
    ·clear hb;(go_wp2_with fail);refine HL.out.mono ?_;rintro e w1 ⟨rfl,rfl⟩;(go_wp2_with fail);go_ret;exact⟨by rw[HF.out];first | done | rfl,rfl⟩
    ·(have hB:b<x1:=by omega);clear hb;(go_wp2_with fail);refine HL.out.mono ?_;rintro e w1 ⟨rfl,rfl⟩;(go_wp2_with fail);go_ret;exact⟨by rw[HF.out];first | done | rfl,rfl⟩
   have hgood:utfD (N-2) 128 191 (X.data.toList.drop (min 2 N))=U:=by
    rw[←HU.out,if_neg hN0];by_cases hN1:N=1
    ·subst hN1;exact(utfD_zero _ _ _).trans (utfD_zero _ _ _).symm
    ·(have h1X:1<X.size:=by omega);obtain⟨hab1,hab2⟩:a=lo∧b=hi:=by
      rcases hLd with h | h
      ·omega
      ·exact h
     subst hab1 hab2;obtain⟨M,rfl⟩:∃M,N=M+2:=⟨N-2,by omega⟩;(have hng:¬(X[1].toNat<a∨b<X[1].toNat):=fun h=>hbad ⟨h1X,by omega,h⟩);rw[show M+2-1=M+1 by omega,Nat.zero_add,utfD_at X M a b 1 h1X,if_pos (by omega),show M+2-2=M by omega,show min 2 (M+2)=2 by omega]
   have HG:=zH hgood;clear hgood HU;have HLD:=zH (zA hLd hbad);clear hLd hbad;(go_wp2_with fail);refine HL.out.mono ?_;rintro e w1 ⟨rfl,rfl⟩;(go_upto_region 3 with fail);go_cut [38] from 15 to 38 (fun v wx=>v= .bool false∧wx=w)
   case first=>
    by_cases hN1:N=1
    ·subst hN1;(have hX1:¬(X.size:Int)<1:=by omega);(go_wp2_with fail);go_meet
     case rel=>exact⟨rfl,rfl⟩
    ·(have h1X:1<X.size:=by omega);(have hng:¬(X[1].toNat<a∨b<X[1].toNat):=fun h=>HLD.out.2 ⟨h1X,by omega,h⟩);(have hN1I:(1:Int)<(N:Int):=by omega);generalize hx1:X[1].toNat=x1 at*;(have hx1I:((X[1].toNat:Nat):Int)=x1:=by rw[hx1]);(obtain⟨hA,hB⟩:¬x1<a∧¬b<x1:=by omega);clear hx1 hng;(go_wp2_with fail);go_meet
     case rel=>exact⟨rfl,rfl⟩
   case rest=>
    obtain⟨rfl,rfl⟩:=hcut;clear HL HLD;(go_wp2_with fail);go_loopw [2,6] (fun r iv wr=>∃i:Nat,2≤i∧i≤max 2 N∧r= .bool false∧iv= .int .i64 i∧utfD (N-i) 128 191 (X.data.toList.drop (min i N))=U∧wc=wr) (fun _ iv _=>N-(intOf iv).toNat)
    case atStart=>exact⟨2,zN _,by omega,rfl,rfl,HG.out,rfl⟩
    case round=>
     obtain⟨i,hi2,hiN,rfl,rfl,hu,rfl⟩:=hrel;by_cases hlt:i<N
     ·(have hiX:i<X.size:=by omega);(have hmin:min i N=i:=by omega);rw[hmin,show N-i=(N-(i+1))+1 by omega,utfD_at X _ 128 191 i hiX] at hu;have HU:=zH hu;clear hu HG;have hc1:X[i].toNat<256:=X[i].toNat_lt;generalize hx1:X[i].toNat=x1 at*;(have hx1I:((X[i].toNat:Nat):Int)=x1:=by rw[hx1]);clear hx1;by_cases hA:(x1:Int)<128
      ·have HF:=zH (show U=false by rw[←HU.out,if_neg (by omega)]);(go_wp2_with fail);go_ret;exact⟨by rw[HF.out];first | done | rfl,rfl⟩
      ·by_cases hB:(191:Int)<x1
       ·have HF:=zH (show U=false by rw[←HU.out,if_neg (by omega)]);(go_wp2_with fail);go_ret;exact⟨by rw[HF.out];first | done | rfl,rfl⟩
       ·have HF:=zH (show utfD (N-(i+1)) 128 191 (X.data.toList.drop (min (i+1) N))=U by rw[show min (i+1) N=i+1 by omega,←HU.out,if_pos (by omega)]);(go_wp2_with fail);go_roundw
        case rel=>exact⟨i+1,by omega,by omega,rfl,by go_num,HF.out,by simp⟩
        case measure=>simp [intOf];omega
     ·(have hmin:min i N=N:=by omega);rw[hmin,show N-i=0 by omega] at hu;have hd:=ext_drop X N;(have hsz:(X.extract N X.size).size=X.size-N:=by rw[ByteArray.size_extract];omega);have HD:=zH hd;clear hd;have HV:=zH (show utfD 0 0 0 (X.data.toList.drop N)=U from(utfD_zero _ _ _).symm.trans hu);clear hu HG;(go_wp2_with fail);go_roundw
      case rel=>exact⟨_,rfl,rfl,by omega,by rw[HD.out];exact HV.out,by simp⟩
      case measure=>simp [strSz];omega
theorem all_step (s:ByteArray)(i:Nat)(h:i<s.size)(hp:(s.data.toList.take i).all okB=true)(hb:okB s[i]=true):(s.data.toList.take (i+1)).all okB=true:=by
 rw[zG (by simpa using h),List.all_append,hp];simp
 exact hb
theorem str_eq_iff (s:ByteArray)(l:List UInt8):(s.toList==l)=decide (s.data.toList=l):=by
 rw[ByteArray.toList_eq];by_cases h:s.data.toList=l
 ·rw[zE h,h];simp
 ·rw[zD h,zB];exact h
theorem part_any (w:World)(s:ByteArray)(hs:s.size≤1000000):
  Calls Tryz.prog 122 #[.string s] w fun e w'=>e= .returned (.bool (partL s.data.toList))∧w=w':=by
 have HL:=zH (letters_any w s hs);obtain⟨U,hU⟩:∃U,partL s.data.toList=U:=⟨_,rfl⟩;have HP:=zH (show partL s.data.toList=(s.data.toList.all okB&&decide (1≤s.data.toList.length∧s.data.toList.length≤60)&&decide (s.data.toList≠[46])&&decide (s.data.toList≠[46,46])&&utfD 0 0 0 s.data.toList) from rfl);rw[hU] at HP⊢;have HU:=zH hU;clear hU;go_enter Tryz.func122,Tryz.ntmps122
 go_wp2_with fail
 go_loopw [2,3,4,7] (fun r _ _ iv wr=>∃i:Nat,i≤s.size∧r= .bool false∧iv= .int .i64 i∧(s.data.toList.take i).all okB=true∧w=wr) (fun _ _ _ iv _=>s.size-(intOf iv).toNat)
 case atStart=>exact⟨0,Nat.zero_le _,rfl,rfl,by simp,rfl⟩
 case round=>
  obtain⟨i,hi,rfl,rfl,hall,rfl⟩:=hrel;by_cases hlt:i<s.size
  ·have hok:okB s[i]= !(decide (s[i].toNat<32)||decide (s[i].toNat=127)||decide (s[i].toNat=47)||decide (s[i].toNat=92)||decide (s[i].toNat=58)):=rfl;have hstep:=all_step s i hlt hall;have hbad:=fun h=>partL_bad (l:=s.data.toList) (i:=i) (by simpa using hlt) h
   have hel:s.data.toList[i]'(by simpa using hlt)=s[i]:=rfl;rw[hel] at hbad;generalize okB s[i]=ok at*;have hc6:s[i].toNat<256:=s[i].toNat_lt;generalize hx:s[i].toNat=x at*;(have hxI:((s[i].toNat:Nat):Int)=x:=by rw[hx]);clear hx hel;have HOK:=zH hok;clear hok;have HST:=zH hstep;clear hstep hall;have HBD:=zH hbad;clear hbad;(go_upto_region 5 with fail);go_cut [13] from 14 to 31 (fun v wx=>v= .bool (!ok)∧wx=w)
   case first=>
    by_cases c1:x<32
    ·have HV:=zH (show ok=false by rw[HOK.out,zE c1];rfl);(have t1:(x:Int)<32:=by omega);clear c1;(go_wp2_with fail);go_meet
     case rel=>exact⟨by rw[HV.out];first | done | rfl,rfl⟩
    ·skip
     by_cases c2:x=127
     ·have HV:=zH (show ok=false by rw[HOK.out,zD c1,zE c2];rfl);(have t1:¬(x:Int)<32:=by omega);(have e1:((x:Int)==127)=true:=by rw[beq_iff_eq];omega);clear c1 c2;(go_wp2_with fail);go_meet
      case rel=>exact⟨by rw[HV.out];first | done | rfl,rfl⟩
     ·skip
      by_cases c3:x=47
      ·have HV:=zH (show ok=false by rw[HOK.out,zD c1,zD c2,zE c3];rfl);(have t1:¬(x:Int)<32:=by omega);(have e1:((x:Int)==127)=false:=by rw[zB];omega);(have e2:((x:Int)==47)=true:=by rw[beq_iff_eq];omega);clear c1 c2 c3;(go_wp2_with fail);go_meet
       case rel=>exact⟨by rw[HV.out];first | done | rfl,rfl⟩
      ·skip
       by_cases c4:x=92
       ·have HV:=zH (show ok=false by rw[HOK.out,zD c1,zD c2,zD c3,zE c4];rfl);(have t1:¬(x:Int)<32:=by omega);(obtain⟨e1,e2⟩:((x:Int)==127)=false∧((x:Int)==47)=false:=by simp only[zB];omega);(have e3:((x:Int)==92)=true:=by rw[beq_iff_eq];omega);clear c1 c2 c3 c4;(go_wp2_with fail);go_meet
        case rel=>exact⟨by rw[HV.out];first | done | rfl,rfl⟩
       ·skip
        by_cases c5:x=58
        ·have HV:=zH (show ok=false by rw[HOK.out,zD c1,zD c2,zD c3,zD c4,zE c5];rfl);(have t1:¬(x:Int)<32:=by omega);(obtain⟨e1,e2,e3⟩:((x:Int)==127)=false∧((x:Int)==47)=false∧((x:Int)==92)=false:=by simp only[zB];omega);(have e4:((x:Int)==58)=true:=by rw[beq_iff_eq];omega);clear c1 c2 c3 c4 c5;(go_wp2_with fail);go_meet
         case rel=>exact⟨by rw[HV.out];first | done | rfl,rfl⟩
        ·have HV:=zH (show ok=true by rw[HOK.out,zD c1,zD c2,zD c3,zD c4,zD c5];rfl);(have t1:¬(x:Int)<32:=by omega);(obtain⟨e1,e2,e3,e4⟩:((x:Int)==127)=false∧((x:Int)==47)=false∧((x:Int)==92)=false∧((x:Int)==58)=false:=by simp only[zB];omega);clear c1 c2 c3 c4 c5;(go_wp2_with fail);go_meet
         case rel=>exact⟨by rw[HV.out];first | done | rfl,rfl⟩
   case rest=>
    obtain⟨rfl,rfl⟩:=hcut;clear HOK;cases ok with
    | false=>
     have HF:=zH (show U=false by rw[←HU.out];exact HBD.out rfl);(go_wp2_with fail);go_ret;exact⟨by rw[HF.out];first | done | rfl,rfl⟩
    | true=>
     have HN:=zH (HST.out rfl);(go_wp2_with fail);go_roundw
     case rel=>exact⟨i+1,by omega,rfl,by go_num,HN.out,by simp⟩
     case measure=>simp [intOf];omega
  ·obtain rfl:i=s.size:=by omega
   rw[zO (by simp)] at hall;have hP:=HP.out;(have hlen:s.data.toList.length=s.size:=by simp);have hs1:=str_eq_iff s [46];have hs2:=str_eq_iff s [46,46];rw[hall,hlen,Bool.true_and] at hP;clear hall HP HU hlen hlt;generalize s.data.toList=L at*;generalize utfD 0 0 0 L=V at*;have HP:=zH hP;clear hP;by_cases c1:(1:Int)≤s.size
   ·by_cases c2:(s.size:Int)≤60
    ·by_cases c3:L=[46]
     ·(have hb:(s.toList==[46])=true:=by rw[hs1,zE c3]);have HF:=zH (show U=false by rw[HP.out,zE (show 1≤s.size∧s.size≤60 by omega),zD (fun h=>h c3)];rfl);clear hs1 hs2 c3;(go_wp2_with fail);go_ret;exact⟨by rw[HF.out];first | done | rfl,rfl⟩
     ·(have hb:(s.toList==[46])=false:=by rw[hs1,zD c3]);by_cases c4:L=[46,46]
      ·(have hb2:(s.toList==[46,46])=true:=by rw[hs2,zE c4]);have HF:=zH (show U=false by rw[HP.out,zE (show 1≤s.size∧s.size≤60 by omega),zE c3,zD (fun h=>h c4)];rfl);clear hs1 hs2 c3 c4;(go_wp2_with fail);go_ret;exact⟨by rw[HF.out];first | done | rfl,rfl⟩
      ·(have hb2:(s.toList==[46,46])=false:=by rw[hs2,zD c4]);have HF:=zH (show U=V by rw[HP.out,zE (show 1≤s.size∧s.size≤60 by omega),zE c3,zE c4];rfl);clear hs1 hs2 c3 c4;(go_wp2_with fail);refine HL.out.mono ?_;rintro e w1 ⟨rfl,rfl⟩;(go_wp2_with fail);go_ret;exact⟨by rw[HF.out];first | done | rfl,rfl⟩
    ·have HF:=zH (show U=false by rw[HP.out,zD (show ¬(1≤s.size∧s.size≤60) by omega)];rfl);clear hs1 hs2;(go_wp2_with fail);go_ret;exact⟨by rw[HF.out];first | done | rfl,rfl⟩
   ·have HF:=zH (show U=false by rw[HP.out,zD (show ¬(1≤s.size∧s.size≤60) by omega)];rfl);clear hs1 hs2;(go_wp2_with fail);go_ret;exact⟨by rw[HF.out];first | done | rfl,rfl⟩
end Go.Proofs.YtnpehjgnplaabaaGreatDoor
namespace Sw
open Go Go.RowKit
theorem wpList_app {P:Program}{w:World}{ops:Array Oper}{rest:List Oper}{o:Oper}{a:Act}{Q:Exit→Act→World→Prop}(hgd:o.guard=none)(s x:Operand)(t:TypeId)
  (ho:o.op= .call {callee:= .builtin .append,args:= #[s,x],argTypes:= #[t,t]})
  (base:Nat) (e:TypeId) (z:Value) (size bytes:Nat) (ht:P.underlying t=some (.slice e)) (hi:(P.info? e).map (fun i=>(i.zero,i.size,i.bytes))=some (some z,size,bytes))
  (hzs:z.cells.size=size) (hsz:0<size)
  (v:Value) (n:Nat) (xs:List Value) (hs:a.eval s=v) (hown:w.ownsRow base e size v n xs)
  (B:Nat) (c:Nat) (news:Array Value) (te:TypeId) (hx:a.eval x= .slice (some ⟨B,0,none⟩) 1 c) (hB:Blk w B te news) (hl:news.size=size) (h1:∀u∈news.toList,u.oneCell'=true)
  (hn:n+1≤1000000) (hby:bytes≤1000000) (hbase:base≤w.heap.size) (H:Nat) (hH:w.heap.size=H)
  (h:∀g cap w',w'.ownsRow base e size (.slice (some ⟨g,0,none⟩) (n+1) cap) (n+1) (xs++news.toList)→w.grownBy w' v.ownBlock→(v.ownBlock=some g∨g=H)→g<w'.heap.size→wpList P ops Q rest (a.put o.dst (.slice (some ⟨g,0,none⟩) (n+1) cap)) w'):
  wpList P ops Q (o::rest) a w:=by
 obtain⟨i,hi,hz,hs2,hb⟩:=info_parts hi;refine wpList_append_lies w hgd s x t ho base e i z size bytes ht hi hz hs2 hb hzs hsz v n xs hs hown ⟨B,0,none⟩ 1 c news.toList hx (by simpa using hl) (World.news_of_block hB) h1 (by omega) (by unfold maxLen;omega) ?_ hbase H hH h
 calc (n+1)*bytes≤1000000*1000000:=Nat.mul_le_mul hn hby
  _≤140737488355328:=by decide
theorem own_ne {w:World}{base:Nat}{e:TypeId}{size:Nat}{v:Value}{n:Nat}{xs:List Value}(h:w.ownsRow base e size v n xs)(g:Nat)(hg:w.heap.size≤g):v.ownBlock≠some g:=by
 intro hv;have:=(h.lt g hv).2;omega
theorem own_kept {w w':World}{base:Nat}{e:TypeId}{size:Nat}{v:Value}{n:Nat}{xs:List Value}(h:w.ownsRow base e size v n xs)(hb:Below w.heap.size w w'):w'.ownsRow base e size v n xs:=
 h.kept (grown_below (row:=none) hb) (by
  rcases v.ownBlock.eq_none_or_eq_some with h | ⟨g,h⟩
  ·exact .inl h
  ·right;rw[h];simp)
theorem own_drew {w:World}{base:Nat}{e:TypeId}{size:Nat}{v:Value}{n:Nat}{xs:List Value}(h:w.ownsRow base e size v n xs):w.drew.ownsRow base e size v n xs:=h
structure Two (w:World) (base:Nat) (e:TypeId) (size:Nat) (v1:Value) (n1:Nat) (xs1:List Value) (v2:Value) (n2:Nat) (xs2:List Value):Prop where
 a:w.ownsRow base e size v1 n1 xs1
 b:w.ownsRow base e size v2 n2 xs2
 ne:v1.ownBlock=none∨v1.ownBlock≠v2.ownBlock
section
variable {w w' w0:World} {base:Nat} {e:TypeId} {size:Nat} {v1 v2:Value} {n1 n2:Nat} {xs1 xs2:List Value}
theorem Two.symm (h:Two w base e size v1 n1 xs1 v2 n2 xs2):Two w base e size v2 n2 xs2 v1 n1 xs1:=
 ⟨h.b,h.a,by
  rcases h.ne with h | h
  ·rcases Option.eq_none_or_eq_some v2.ownBlock with k | ⟨g,k⟩
   ·exact .inl k
   ·right;rw[k,h];simp
  ·exact .inr fun k=>h k.symm⟩
theorem Two.kept (h:Two w base e size v1 n1 xs1 v2 n2 xs2)(hb:Below w.heap.size w w'):Two w' base e size v1 n1 xs1 v2 n2 xs2:=⟨own_kept h.a hb,own_kept h.b hb,h.ne⟩
theorem own_below {B:Nat}{a w1:World}(h:w.ownsRow base e size v1 n1 xs1)(hb:Below B a w1)(hg:w1.grownBy w' v1.ownBlock)(hB:B≤base)(hs:B≤w1.heap.size):Below B a w':=
 hb.grown hg hs (fun k hk=>zT hB (h.lt k hk).1)
end
end Sw
namespace Go.Proofs.YtnpehjgnplaabaaGreatDoor
open Go Go.RowKit
open Sw
theorem refUtf_any (w:World)(s:ByteArray)(hs:s.size≤1000000):
  Calls Tryz.prog 182 #[.string s] w fun e w'=>e= .returned (.bool (utfD 0 0 0 s.data.toList))∧w=w':=by
 obtain⟨U,hU⟩:∃U,utfD 0 0 0 s.data.toList=U:=⟨_,rfl⟩;rw[hU];go_enter Tryz.func182,Tryz.ntmps182
 go_wp2_with fail
 go_loopw [2,3,4,5,6,7,8,9] (fun r iv _ _ _ _ _ _ wr=>∃i:Nat,i≤s.size∧r= .bool false∧iv= .int .i64 i∧utfD 0 0 0 (s.data.toList.drop i)=U∧w=wr) (fun _ iv _ _ _ _ _ _ _=>s.size-(intOf iv).toNat)
 case atStart=>exact⟨0,Nat.zero_le _,rfl,rfl,hU,rfl⟩
 case round=>
  obtain⟨i,hi,rfl,rfl,hu,rfl⟩:=hrel;by_cases hlt:i<s.size
  ·rw[utfD_at0 s 0 0 i hlt] at hu;have HU:=zH hu;clear hu hU;have hc6:s[i].toNat<256:=s[i].toNat_lt;generalize hc:s[i].toNat=c at*;have hcI:((s[i].toNat:Nat):Int)=c:=by rw[hc]
   clear hc;(go_upto_if 19 with fail);go_cut [5,6,7] from 18 to 45 (fun n lo hi wx=>n= .int .i64 (uN c:Nat)∧lo= .int .i64 (uLo c:Nat)∧hi= .int .i64 (uHi c:Nat)∧wx=w)
   case first=>
    (have cases11:(0≤c∧c≤127)∨(128≤c∧c≤193)∨(194≤c∧c≤223)∨(224≤c∧c≤224)∨(225≤c∧c≤236)∨(237≤c∧c≤237)∨(238≤c∧c≤239)∨(240≤c∧c≤240)∨(241≤c∧c≤243)∨(244≤c∧c≤244)∨(245≤c∧c≤255):=by omega);rcases cases11 with ⟨r0,r1⟩ | ⟨r0,r1⟩ | ⟨r0,r1⟩ | ⟨r0,r1⟩ | ⟨r0,r1⟩ | ⟨r0,r1⟩ | ⟨r0,r1⟩ | ⟨r0,r1⟩ | ⟨r0,r1⟩ | ⟨r0,r1⟩ | ⟨r0,r1⟩
    ·have q:uN c=1∧uLo c=128∧uHi c=191:=by
      unfold uN uLo uHi;refine⟨?_,?_,?_⟩<;>(repeat' split)<;>omega
     (obtain⟨t1,t2,t3,t4,t5,t6,t7⟩:(c:Int)<(128:Int)∧¬(194:Int)≤(c:Int)∧(c:Int)≤(223:Int)∧¬(224:Int)≤(c:Int)∧(c:Int)≤(239:Int)∧¬(240:Int)≤(c:Int)∧(c:Int)≤(244:Int):=by omega);(obtain⟨e224,e237,e240,e244⟩:((c:Int)==224)=false∧((c:Int)==237)=false∧((c:Int)==240)=false∧((c:Int)==244)=false:=by simp only[zB];omega);have HQ:=zH q;clear q r0 r1;(go_wp2_with fail);go_meet
     case rel=>exact⟨by rw[HQ.out.1];rfl,by rw[HQ.out.2.1];rfl,by rw[HQ.out.2.2];rfl,rfl⟩
    ·have q:uN c=0∧uLo c=128∧uHi c=191:=by
      unfold uN uLo uHi;refine⟨?_,?_,?_⟩<;>(repeat' split)<;>omega
     (obtain⟨t1,t2,t3,t4,t5,t6,t7⟩:¬(c:Int)<(128:Int)∧¬(194:Int)≤(c:Int)∧(c:Int)≤(223:Int)∧¬(224:Int)≤(c:Int)∧(c:Int)≤(239:Int)∧¬(240:Int)≤(c:Int)∧(c:Int)≤(244:Int):=by omega);(obtain⟨e224,e237,e240,e244⟩:((c:Int)==224)=false∧((c:Int)==237)=false∧((c:Int)==240)=false∧((c:Int)==244)=false:=by simp only[zB];omega);have HQ:=zH q;clear q r0 r1;(go_wp2_with fail);go_meet
     case rel=>exact⟨by rw[HQ.out.1];rfl,by rw[HQ.out.2.1];rfl,by rw[HQ.out.2.2];rfl,rfl⟩
    ·have q:uN c=2∧uLo c=128∧uHi c=191:=by
      unfold uN uLo uHi;refine⟨?_,?_,?_⟩<;>(repeat' split)<;>omega
     (obtain⟨t1,t2,t3,t4,t5,t6,t7⟩:¬(c:Int)<(128:Int)∧(194:Int)≤(c:Int)∧(c:Int)≤(223:Int)∧¬(224:Int)≤(c:Int)∧(c:Int)≤(239:Int)∧¬(240:Int)≤(c:Int)∧(c:Int)≤(244:Int):=by omega);(obtain⟨e224,e237,e240,e244⟩:((c:Int)==224)=false∧((c:Int)==237)=false∧((c:Int)==240)=false∧((c:Int)==244)=false:=by simp only[zB];omega);have HQ:=zH q;clear q r0 r1;(go_wp2_with fail);go_meet
     case rel=>exact⟨by rw[HQ.out.1];rfl,by rw[HQ.out.2.1];rfl,by rw[HQ.out.2.2];rfl,rfl⟩
    ·have q:uN c=3∧uLo c=160∧uHi c=191:=by
      unfold uN uLo uHi;refine⟨?_,?_,?_⟩<;>(repeat' split)<;>omega
     (obtain⟨t1,t2,t3,t4,t5,t6,t7⟩:¬(c:Int)<(128:Int)∧(194:Int)≤(c:Int)∧¬(c:Int)≤(223:Int)∧(224:Int)≤(c:Int)∧(c:Int)≤(239:Int)∧¬(240:Int)≤(c:Int)∧(c:Int)≤(244:Int):=by omega);(have e224:((c:Int)==224)=true:=by rw[beq_iff_eq];omega);(obtain⟨e237,e240,e244⟩:((c:Int)==237)=false∧((c:Int)==240)=false∧((c:Int)==244)=false:=by simp only[zB];omega);have HQ:=zH q;clear q r0 r1;(go_wp2_with fail);go_meet
     case rel=>exact⟨by rw[HQ.out.1];rfl,by rw[HQ.out.2.1];rfl,by rw[HQ.out.2.2];rfl,rfl⟩
    ·have q:uN c=3∧uLo c=128∧uHi c=191:=by
      unfold uN uLo uHi;refine⟨?_,?_,?_⟩<;>(repeat' split)<;>omega
     (obtain⟨t1,t2,t3,t4,t5,t6,t7⟩:¬(c:Int)<(128:Int)∧(194:Int)≤(c:Int)∧¬(c:Int)≤(223:Int)∧(224:Int)≤(c:Int)∧(c:Int)≤(239:Int)∧¬(240:Int)≤(c:Int)∧(c:Int)≤(244:Int):=by omega);(obtain⟨e224,e237,e240,e244⟩:((c:Int)==224)=false∧((c:Int)==237)=false∧((c:Int)==240)=false∧((c:Int)==244)=false:=by simp only[zB];omega);have HQ:=zH q;clear q r0 r1;(go_wp2_with fail);go_meet
     case rel=>exact⟨by rw[HQ.out.1];rfl,by rw[HQ.out.2.1];rfl,by rw[HQ.out.2.2];rfl,rfl⟩
    ·have q:uN c=3∧uLo c=128∧uHi c=159:=by
      unfold uN uLo uHi;refine⟨?_,?_,?_⟩<;>(repeat' split)<;>omega
     (obtain⟨t1,t2,t3,t4,t5,t6,t7⟩:¬(c:Int)<(128:Int)∧(194:Int)≤(c:Int)∧¬(c:Int)≤(223:Int)∧(224:Int)≤(c:Int)∧(c:Int)≤(239:Int)∧¬(240:Int)≤(c:Int)∧(c:Int)≤(244:Int):=by omega);(have e224:((c:Int)==224)=false:=by rw[zB];omega);(have e237:((c:Int)==237)=true:=by rw[beq_iff_eq];omega);(obtain⟨e240,e244⟩:((c:Int)==240)=false∧((c:Int)==244)=false:=by simp only[zB];omega);have HQ:=zH q;clear q r0 r1;(go_wp2_with fail);go_meet
     case rel=>exact⟨by rw[HQ.out.1];rfl,by rw[HQ.out.2.1];rfl,by rw[HQ.out.2.2];rfl,rfl⟩
    ·have q:uN c=3∧uLo c=128∧uHi c=191:=by
      unfold uN uLo uHi;refine⟨?_,?_,?_⟩<;>(repeat' split)<;>omega
     (obtain⟨t1,t2,t3,t4,t5,t6,t7⟩:¬(c:Int)<(128:Int)∧(194:Int)≤(c:Int)∧¬(c:Int)≤(223:Int)∧(224:Int)≤(c:Int)∧(c:Int)≤(239:Int)∧¬(240:Int)≤(c:Int)∧(c:Int)≤(244:Int):=by omega);(obtain⟨e224,e237,e240,e244⟩:((c:Int)==224)=false∧((c:Int)==237)=false∧((c:Int)==240)=false∧((c:Int)==244)=false:=by simp only[zB];omega);have HQ:=zH q;clear q r0 r1;(go_wp2_with fail);go_meet
     case rel=>exact⟨by rw[HQ.out.1];rfl,by rw[HQ.out.2.1];rfl,by rw[HQ.out.2.2];rfl,rfl⟩
    ·have q:uN c=4∧uLo c=144∧uHi c=191:=by
      unfold uN uLo uHi;refine⟨?_,?_,?_⟩<;>(repeat' split)<;>omega
     (obtain⟨t1,t2,t3,t4,t5,t6,t7⟩:¬(c:Int)<(128:Int)∧(194:Int)≤(c:Int)∧¬(c:Int)≤(223:Int)∧(224:Int)≤(c:Int)∧¬(c:Int)≤(239:Int)∧(240:Int)≤(c:Int)∧(c:Int)≤(244:Int):=by omega);(obtain⟨e224,e237⟩:((c:Int)==224)=false∧((c:Int)==237)=false:=by simp only[zB];omega);(have e240:((c:Int)==240)=true:=by rw[beq_iff_eq];omega);(have e244:((c:Int)==244)=false:=by rw[zB];omega);have HQ:=zH q;clear q r0 r1;(go_wp2_with fail);go_meet
     case rel=>exact⟨by rw[HQ.out.1];rfl,by rw[HQ.out.2.1];rfl,by rw[HQ.out.2.2];rfl,rfl⟩
    ·have q:uN c=4∧uLo c=128∧uHi c=191:=by
      unfold uN uLo uHi;refine⟨?_,?_,?_⟩<;>(repeat' split)<;>omega
     (obtain⟨t1,t2,t3,t4,t5,t6,t7⟩:¬(c:Int)<(128:Int)∧(194:Int)≤(c:Int)∧¬(c:Int)≤(223:Int)∧(224:Int)≤(c:Int)∧¬(c:Int)≤(239:Int)∧(240:Int)≤(c:Int)∧(c:Int)≤(244:Int):=by omega);(obtain⟨e224,e237,e240,e244⟩:((c:Int)==224)=false∧((c:Int)==237)=false∧((c:Int)==240)=false∧((c:Int)==244)=false:=by simp only[zB];omega);have HQ:=zH q;clear q r0 r1;(go_wp2_with fail);go_meet
     case rel=>exact⟨by rw[HQ.out.1];rfl,by rw[HQ.out.2.1];rfl,by rw[HQ.out.2.2];rfl,rfl⟩
    ·have q:uN c=4∧uLo c=128∧uHi c=143:=by
      unfold uN uLo uHi;refine⟨?_,?_,?_⟩<;>(repeat' split)<;>omega
     (obtain⟨t1,t2,t3,t4,t5,t6,t7⟩:¬(c:Int)<(128:Int)∧(194:Int)≤(c:Int)∧¬(c:Int)≤(223:Int)∧(224:Int)≤(c:Int)∧¬(c:Int)≤(239:Int)∧(240:Int)≤(c:Int)∧(c:Int)≤(244:Int):=by omega);(obtain⟨e224,e237,e240⟩:((c:Int)==224)=false∧((c:Int)==237)=false∧((c:Int)==240)=false:=by simp only[zB];omega);(have e244:((c:Int)==244)=true:=by rw[beq_iff_eq];omega);have HQ:=zH q;clear q r0 r1;(go_wp2_with fail);go_meet
     case rel=>exact⟨by rw[HQ.out.1];rfl,by rw[HQ.out.2.1];rfl,by rw[HQ.out.2.2];rfl,rfl⟩
    ·have q:uN c=0∧uLo c=128∧uHi c=191:=by
      unfold uN uLo uHi;refine⟨?_,?_,?_⟩<;>(repeat' split)<;>omega
     (obtain⟨t1,t2,t3,t4,t5,t6,t7⟩:¬(c:Int)<(128:Int)∧(194:Int)≤(c:Int)∧¬(c:Int)≤(223:Int)∧(224:Int)≤(c:Int)∧¬(c:Int)≤(239:Int)∧(240:Int)≤(c:Int)∧¬(c:Int)≤(244:Int):=by omega);(obtain⟨e224,e237,e240,e244⟩:((c:Int)==224)=false∧((c:Int)==237)=false∧((c:Int)==240)=false∧((c:Int)==244)=false:=by simp only[zB];omega);have HQ:=zH q;clear q r0 r1;(go_wp2_with fail);go_meet
     case rel=>exact⟨by rw[HQ.out.1];rfl,by rw[HQ.out.2.1];rfl,by rw[HQ.out.2.2];rfl,rfl⟩
   case rest=>
    obtain⟨rfl,rfl,rfl,rfl⟩:=hcut;have hn4:=uN_le c;have hlo:=uLo_le c;generalize uN c=N at*;generalize uLo c=a at*;generalize uHi c=b at*;by_cases hN0:N=0
    ·subst hN0;have HF:=zH (show U=false by rw[←HU.out,if_pos rfl]);(go_wp2_with fail);go_ret;exact⟨by rw[HF.out];first | done | rfl,by simp⟩
    (have hNb:((N:Int)==0)=false:=by rw[zB];omega);by_cases hNl:s.size<i+N
    ·have HF:=zH (show U=false by rw[←HU.out,if_neg hN0,utfD_at_short s _ _ _ _ (by omega) (by omega)]);(have hNlI:(s.size:Int)<(i:Int)+N:=by omega);(go_wp2_with fail);go_ret;exact⟨by rw[HF.out];first | done | rfl,by simp⟩
    (have hNlI:¬(s.size:Int)<(i:Int)+N:=by omega);have HG:=zH (show utfD (N-1) a b (s.data.toList.drop (i+1))=U by rw[←HU.out,if_neg hN0]);clear HU;(go_wp2_with fail);go_loopw [2,6,7,8,9] (fun r lo hi kv _ wr=>∃k a b:Nat,1≤k∧k≤N∧r= .bool false∧kv= .int .i64 k∧lo= .int .i64 a∧hi= .int .i64 b∧utfD (N-k) a b (s.data.toList.drop (i+k))=U∧wc=wr) (fun _ _ _ kv _ _=>N-(intOf kv).toNat)
    case atStart=>exact⟨1,a,b,zN _,by omega,rfl,rfl,rfl,rfl,HG.out,by simp⟩
    case round=>
     obtain⟨k,a,b,hk1,hkN,rfl,rfl,rfl,rfl,hu,rfl⟩:=hrel;by_cases hkn:k<N
     ·rw[show N-k=(N-(k+1))+1 by omega,utfD_at s _ a b (i+k) (by omega)] at hu;have HU:=zH hu;clear hu HG;(obtain⟨hix,hik⟩:(i:Int)+k<s.size∧((i:Int)+k).toNat=i+k:=by omega);have hc1:s[i+k].toNat<256:=s[i+k].toNat_lt;generalize hx1:s[i+k].toNat=x1 at*;(have hx1I:((s[i+k].toNat:Nat):Int)=x1:=by rw[hx1]);clear hx1;by_cases hA:x1<a
      ·have HF:=zH (show U=false by rw[←HU.out,if_neg (by omega)]);(go_wp2_with fail);go_ret;exact⟨by rw[HF.out];first | done | rfl,by simp⟩
      ·by_cases hB:b<x1
       ·have HF:=zH (show U=false by rw[←HU.out,if_neg (by omega)]);(go_wp2_with fail);go_ret;exact⟨by rw[HF.out];first | done | rfl,by simp⟩
       ·have HF:=zH (show utfD (N-(k+1)) 128 191 (s.data.toList.drop (i+(k+1)))=U by rw[←HU.out,if_pos (by omega)];rfl);(go_wp2_with fail);go_roundw
        case rel=>exact⟨k+1,128,191,by omega,by omega,rfl,by go_num,rfl,rfl,HF.out,by simp⟩
        case measure=>simp [intOf];omega
     ·(obtain rfl:k=N:=by omega);rw[Nat.sub_self] at hu;have HV:=zH (show utfD 0 0 0 (s.data.toList.drop (i+k))=U from(utfD_zero _ _ _).symm.trans hu);clear hu HG;(go_wp2_with fail);go_roundw
      case rel=>exact⟨i+k,by omega,rfl,by go_num,HV.out,by simp⟩
      case measure=>simp [intOf];omega
  ·obtain rfl:i=s.size:=by omega
   rw[utfD_at_end] at hu;have HU:=zH hu.symm;clear hu hlt;(go_wp2_with fail);go_ret;exact⟨by rw[HU.out];first | done | rfl,rfl⟩
end Go.Proofs.YtnpehjgnplaabaaGreatDoor
namespace Sw
open Go Go.RowKit
def AbM {β:Type} (Mine:Nat→Prop) (B:Nat) (J:β→World→Prop):Prop:=
 ∀s W W' row,J s W→W.grownBy W' row→(∀r,row=some r→Mine r∨(B≤r∧∃o:Obj,W.heap[r]? =some o∧o.isWalk=true))→J s W'
def OwnM {β:Type} (Mine:Nat→Prop) (B:Nat) (I:β→World→Prop):Prop:=
 ∀s W W' row,I s W→W.grownBy W' row→(∀r,row=some r→Mine r∨(B≤r∧∃o:Obj,W.heap[r]? =some o∧o.isCells=false))→I s W'
theorem OwnM.and {β:Type}{Mine:Nat→Prop}{B:Nat}{I I':β→World→Prop}(h:OwnM Mine B I)(h':OwnM Mine B I'):OwnM Mine B (fun s W=>I s W∧I' s W):=fun s W W' row hs hg hr=>⟨h s W W' row hs.1 hg hr,h' s W W' row hs.2 hg hr⟩
theorem OwnM.turn {β:Type}{Mine:Nat→Prop}{B:Nat}{I:β→World→Prop}(h:OwnM Mine B I){s:β}{W:World}{l:Nat}{o:Obj}(o':Obj)(hs:I s W)(hB:B≤l)(hl:W.heap[l]? =some o)(ho:o.isCells=false):I s (W.putObj l o'):=
 h s W _ (some l) hs (grownBy_putObj' W l o') (fun r e=>by cases e;exact .inr ⟨hB,o,hl,ho⟩)
theorem OwnM.new {β:Type}{Mine:Nat→Prop}{B:Nat}{I:β→World→Prop}(h:OwnM Mine B I){s:β}{W:World}(o:Obj)(hs:I s W):I s (W.alloc o):=
 h s W _ none hs (World.grownBy_alloc W o none) (fun r e=>by cases e)
theorem blk_ownM {W W':World}{row:Option Nat}{Mine:Nat→Prop}{B g:Nat}{t:TypeId}{cs:Array Value}(h:Blk W g t cs)(hm:¬Mine g)(hg:W.grownBy W' row)(hr:∀r,row=some r→Mine r∨(B≤r∧∃o:Obj,W.heap[r]? =some o∧o.isCells=false)):Blk W' g t cs:=
 h.grown hg (fun e=>by
  rcases hr g e.symm with h1 | ⟨_,o,ho,hc⟩
  ·exact hm h1
  ·unfold Blk at h;rw[h] at ho;cases ho
   cases hc)
theorem ownM_below {β:Type}{Mine:Nat→Prop}{n₀ B:Nat}{w₀:World}(hn:n₀≤w₀.heap.size)(hB:n₀≤B)(hm:∀r,Mine r→n₀≤r):OwnM Mine B (fun(_:β) W=>Below n₀ w₀ W):=
 fun _ _ _ _ hs hg hr=>hs.grown hg (zT hn hs.size) (fun k e=>by
  rcases hr k e with h | h
  ·exact hm k h
  ·exact zT hB h.1)
def SeqOwns {α:Type} (Mine:Nat→Prop) (F:Fence) (n:Nat) (P:Program) (g:Nat) (lb:Array Value) (encs:α→Array Value) (Kp:World→World→Prop) (S Sp:List α→Prop) (N:Nat) (w:World):Prop:=
 ∀(l:Nat) (J Jx:List α→World→Prop) (W:World),Below w.heap.size w W→AbM Mine W.heap.size J→AbM Mine W.heap.size Jx→
  (∀pre x W1,J pre W1→pre.length<N→YieldAt F (n-1) P l (encs x) W1 fun e W'=>
   (e= .returned (.bool true)∧J (pre++[x]) W'∧Kp W1 W')∨(e= .returned (.bool false)∧Jx (pre++[x]) W'))→
  J [] W→
  CallsIn F n P g (#[.func (.yield l) #[] #[]]++lb) W fun e W'=>(∃v,e= .returned v)∧((∃xs,S xs∧J xs W')∨(∃pre,Sp pre∧Jx pre W'))
variable {F:Fence} {n:Nat} {P:Program}
theorem wpIn_rangeFunc_mine {α:Type}{g:Operand}{ps:Array Tmp}{assign body:Code}{Q:Exit→Act→World→Prop}{a:Act}{w:World}{Mine:Nat→Prop}(hM:∀r,Mine r→r<w.heap.size)
  (hro:F.round=none) (h1:1≤n) {gf:Nat} {lb:Array Value} (hg:a.eval g= .func (.func gf) #[] lb) (hFg:F.fn gf) (eg:∀args w,(callFunc gf args).run P w= .ok (.enter gf args) w)
  {encs:α→Array Value} {Kp:World→World→Prop} {S Sp:List α→Prop} {N:Nat} {w0:World} (hseq:SeqOwns Mine F (n-1) P gf lb encs Kp S Sp N w0)
  (hKt:∀{A B C:World},Kp A B→Kp B C→Kp A C) (hKb:∀(W:World) (l:Nat) (o o':Obj),w.heap.size≤l→W.heap[l]? =some o→o.isCells=false→o.isWalk=false→Kp W (W.putObj l o')) (hb0:Below w0.heap.size w0 w) (hps:∀x,(encs x).size=ps.size)
  (I:List α→World→Prop) (Ix:Code→List α→World→Prop) (hI:OwnM Mine w.heap.size I) (hIx:∀c,OwnM Mine w.heap.size (Ix c)) (h0:I [] w) (a₁:α→Act)
  (hassign:∀(l:Nat) (x:α) (W:World) (K:Act→World→Prop),K (a₁ x) W→
   assign.wpIn (F.inRound l) (n-1-1) P (Exit.then K (fun _ _ _=>False)) {tmps:=(ps.zip (encs x)).foldl (fun t (p,v)=>t.setIfInBounds p v) a.tmps,defers:=[]} W)
  (hbody:∀(l:Nat) (pre:List α) (x:α) (W:World),I pre W→pre.length<N→body.wpIn (F.inRound l) (n-1-1) P (ownPostK Kp I Ix (pre++[x]) W) (a₁ x) W)
  (hdone:∀(D:Nat) (xs:List α) (W:World),w.heap.size≤D→S xs→I xs W→W.heap[D]? =some (.deferred (some []))→Q .normal {a with defers:={target:= .collected D,args:= #[]}::a.defers} W)
  (hstop:∀(D:Nat) (c:Code) (pre:List α) (W:World),w.heap.size≤D→Sp pre→Ix c pre W→W.heap[D]? =some (.deferred (some []))→c.wpIn F n P Q {a with defers:={target:= .collected D,args:= #[]}::a.defers} W):
  (Code.rangeFunc g ps assign body).wpIn F n P Q a w:=by
 refine wpIn_rangeFunc fun fn hfn=>?_
 rw[hro];obtain⟨D,hD⟩:∃D,D=w.heap.size:=⟨_,rfl⟩;obtain⟨R,hR⟩:∃R:LoopState→Option Code→Loop,R=fun st pe=>{state:=st,pending:=pe,fn,tmps:=a.tmps,params:=ps,assign,body,defers:=w.heap.size}:=⟨_,rfl⟩
 obtain⟨W1,hW1⟩:∃W1,(w.alloc (.deferred (some []))).alloc (.loop (R .ready none))=W1:=⟨_,rfl⟩;have hs1:W1.heap.size=D+1+1:=by rw[←hW1,hD];simp
 have hL1:W1.heap[D+1]? =some (.loop (R .ready none)):=by
  rw[←hW1,hD];have:=World.alloc_heap_new (w.alloc (.deferred (some []))) (.loop (R .ready none))
  rwa [World.size_alloc] at this
 have hD1:W1.heap[D]? =some (.deferred (some [])):=by
  rw[←hW1,hD];exact(Below.heap_alloc _ _ _ (by simp)).trans (World.alloc_heap_new w _)
 have hI1:I [] W1:=by rw[←hW1];exact hI.new _ (hI.new _ h0)
 have hb1:Below w0.heap.size w0 W1:=by
  rw[←hW1];exact hb0.trans ((((zR _ w).alloc (zN _) _).alloc (by simp) _).mono hb0.size)
 have stays:∀{A B:World} {row:Option Nat} {k:Nat} {o:Obj},D≤k→A.heap[k]? =some o→o.isWalk=false→A.grownBy B row→(∀r,row=some r→Mine r∨(W1.heap.size≤r∧∃o:Obj,A.heap[r]? =some o∧o.isWalk=true))→B.heap[k]? =some o:=by
  intro A B row k o hk ho hw hgr hr;refine(hgr.block k (Array.getElem?_eq_some_iff.1 ho).1 (fun e=>?_)).trans ho;rcases hr k e.symm with h | ⟨_,o',ho',hw'⟩
  ·have:=hM k h;omega
  ·rw[ho] at ho';cases ho';rw[hw] at hw';cases hw'
 have wide:∀{A:World} {row:Option Nat},(∀r,row=some r→Mine r∨(W1.heap.size≤r∧∃o:Obj,A.heap[r]? =some o∧o.isWalk=true))→(∀r,row=some r→Mine r∨(w.heap.size≤r∧∃o:Obj,A.heap[r]? =some o∧o.isCells=false)):=by
  intro A row hr r e;rcases hr r e with h | ⟨hB,o,ho,hw⟩
  ·exact .inl h
  ·exact .inr ⟨by omega,o,ho,Obj.not_cells_of_walk hw⟩
 refine⟨D+1,[{target:= .collected D,args:= #[]}],W1,{target:= .fn (.func gf) lb,args:= #[.func (.yield (D+1)) #[] #[]]},W1,gf,#[.func (.yield (D+1)) #[] #[]]++lb,W1,?_,?_,?_,?_,fun _=>h1,?_⟩
 ·rw[←hW1,hR,hD];exact run_enterLoop_outer _ _ _ _ _
 ·simp only[resolve,hg];simp [go_sem]
 ·intro f' hf';simp [Target.leads] at hf'
  subst hf';exact hFg
 ·simp [invoke,go_sem,eg]
 refine(hseq (D+1) (fun pre W=>I pre W∧W.heap[D+1]? =some (.loop (R .ready none))∧W.heap[D]? =some (.deferred (some [])))
  (fun pre W=>∃c,Ix c pre W∧W.heap[D+1]? =some (.loop (R .done (some c)))∧W.heap[D]? =some (.deferred (some []))) W1 hb1
  (fun s A B row hs hgr hr=>⟨hI s A B row hs.1 hgr (wide hr),stays (by omega) hs.2.1 rfl hgr hr,stays (zN _) hs.2.2 rfl hgr hr⟩)
  (fun s A B row hs hgr hr=>by
   obtain⟨c,hc,hl,hk⟩:=hs;exact⟨c,hIx c s A B row hc hgr (wide hr),stays (by omega) hl rfl hgr hr,stays (zN _) hk rfl hgr hr⟩)
  ?_ ⟨hI1,hL1,hD1⟩).mono ?_
 ·rintro pre x W ⟨hi,hl,hk⟩ hlen;have hlt:D+1<W.heap.size:=(Array.getElem?_eq_some_iff.1 hl).1;obtain⟨busy,hbusy⟩:∃b:Loop,b={R .ready none with state:= .busy}:=⟨_,rfl⟩;obtain⟨W2,hW2⟩:∃W2,W.putObj (D+1) (.loop busy)=W2:=⟨_,rfl⟩;have hy:=run_yield (P:=P) (args:=encs x) hl (by rw[hR];exact hps x);rw[hR] at hy;refine⟨fn,_,assign,body,hy,roundIn_of_wpIn hfn (hassign _ x W _ ⟨W2,by rw[←hW2,hbusy];exact run_beginRound hl (by rw[hR]),?_⟩)⟩;have hl2:W2.heap[D+1]? =some (.loop busy):=by rw[←hW2];exact World.putObj_heap_same hlt
  have hk2:W2.heap[D]? =some (.deferred (some [])):=by rw[←hW2];exact(World.putObj_heap_other (by omega)).trans hk
  have hw2:Kp W W2:=by rw[←hW2];exact hKb _ _ _ _ (by omega) hl rfl rfl
  have hi2:I pre W2:=by rw[←hW2];exact hI.turn _ hi (by omega) hl rfl
  refine wpIn_mono (hbody _ pre x _ hi2 hlen) ?_;have fin:∀(jump:Option Code) (W3:World),KeepsOthers W2 W3→∃W4,W3.putObj (D+1) (.loop (R (if jump.isNone then .ready else .done) jump))=W4∧
    (Instr.endRound (D+1) jump).run P W3= .ok (.bool jump.isNone) W4∧W3.heap[D+1]? =some (.loop busy)∧
    W4.heap[D+1]? =some (.loop (R (if jump.isNone then .ready else .done) jump))∧W4.heap[D]? =some (.deferred (some [])):=fun jump W3 hk3=>by
   have hl3:=hk3.same _ _ hl2 rfl;have:=run_endRound (P:=P) jump hl3;rw[hbusy,hR] at this;refine⟨_,rfl,?_,hl3,World.putObj_heap_same (Array.getElem?_eq_some_iff.1 hl3).1,(World.putObj_heap_other (by omega)).trans (hk3.same _ _ hk2 rfl)⟩;rw[hR];exact this
  rintro e a3 W3 hp;have out:∀c,KeepsOthers W2 W3→Ix c (pre++[x]) W3→∃v W4,(Instr.endRound (D+1) (some c)).run P W3= .ok v W4∧Ending.returned v= .returned (.bool false)∧Ix c (pre++[x]) W4∧W4.heap[D+1]? =some (.loop (R .done (some c)))∧W4.heap[D]? =some (.deferred (some [])):=fun c hk3 hi3=>by
   obtain⟨W4,hW4,hr,hl3,hl4,hk4⟩:=fin (some c) W3 hk3;exact⟨_,W4,hr,rfl,by rw[←hW4];exact(hIx c).turn _ hi3 (by omega) hl3 rfl,hl4,hk4⟩
  cases e with
  | normal=>
   obtain⟨hk3,hkp3,hi3⟩:=hp;obtain⟨W4,hW4,hr,hl3,hl4,hk4⟩:=fin none W3 hk3;refine⟨_,W4,hr,.inl ⟨rfl,⟨?_,hl4,hk4⟩,?_⟩⟩
   ·rw[←hW4];exact hI.turn _ hi3 (by omega) hl3 rfl
   ·rw[←hW4];exact hKt (hKt hw2 hkp3) (hKb _ _ _ _ (by omega) hl3 rfl (by rw[hbusy];rfl))
  | ret=>
   obtain⟨v,W4,hr,hv,h4⟩:=out .ret hp.1 hp.2;exact⟨v,W4,hr,.inr ⟨hv,.ret,h4⟩⟩
  | exit id=>
   obtain⟨v,W4,hr,hv,h4⟩:=out (.exit id) hp.1 hp.2;exact⟨v,W4,hr,.inr ⟨hv,.exit id,h4⟩⟩
  | goto t=>
   obtain⟨v,W4,hr,hv,h4⟩:=out (.goto t) hp.1 hp.2;exact⟨v,W4,hr,.inr ⟨hv,.goto t,h4⟩⟩
  | panic ch=>exact hp.elim
  | outgrown=>exact hp.elim
 ·rintro e W2 ⟨⟨v,rfl⟩,(⟨xs,hS,hi,hl,hk⟩ | ⟨pre,hSp,c,hi,hl,hk⟩)⟩
  ·have hr:=run_endLoop (P:=P) hl (by rw[hR];simp);rw[hR] at hr;refine⟨none,_,hr,?_⟩;exact hdone D xs _ (by omega) hS (hI.turn _ hi (by omega) hl rfl) ((World.putObj_heap_other (by omega)).trans hk)
  ·have hr:=run_endLoop (P:=P) hl (by rw[hR];simp);rw[hR] at hr;refine⟨some c,_,hr,?_⟩;exact hstop D c pre _ (by omega) hSp ((hIx c).turn _ hi (by omega) hl rfl) ((World.putObj_heap_other (by omega)).trans hk)
end Sw
