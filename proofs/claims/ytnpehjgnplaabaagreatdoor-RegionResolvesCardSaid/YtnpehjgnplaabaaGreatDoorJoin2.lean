/- Several texts of ours, joined. -/
import Derived.Test.YtnpehjgnplaabaaGreatDoorJoin1
set_option linter.unusedVariables false
set_option linter.unusedSimpArgs false
set_option maxRecDepth 100000
set_option maxHeartbeats 64000000
namespace Go.Proofs
open Go.Shelf
def Tryz.lays106_ren:Go.Shelf.Ren:=⟨fun | 106=>78 | 213=>117 | 265=>159 | n=>n,fun | 9=>9 | 3=>3 | n=>n,fun | n=>n⟩
theorem Tryz.lays106:Go.Proofs.Lays.n106 Tryz.prog Tryz.lays106_ren:={
 mixed:=by kernel_rfl
 f106:=Tryz.func78.trans (congrArg some (by kernel_rfl))
 f213:=Tryz.func117.trans (congrArg some (by kernel_rfl))
 f265:=Tryz.func159.trans (congrArg some (by kernel_rfl))
 t3:=Tryz.underlying3
 a3:=Tryz.isAgg3
 z3:=Tryz.sizeOf3
 v3:=Tryz.zeroValue3
 t9:=Tryz.underlying9
 a9:=Tryz.isAgg9
 z9:=Tryz.sizeOf9
 v9:=Tryz.zeroValue9}
open Go.RowKit in
theorem Tryz.strings_Compare (a b:ByteArray)(w:World):
  Calls Tryz.prog 78 #[.string a,.string b] w fun e w'=>e= .returned (.int .i64 (Lib.compareBytes a.data.toList b.data.toList))∧w'=w:=Any.strings_Compare Tryz.lays106 a b w
def Tryz.lays219_ren:Go.Shelf.Ren:=⟨fun | 219=>189 | 217=>213 | 225=>214 | 224=>215 | 267=>216 | 266=>225 | 314=>226 | n=>n,fun | 9=>9 | 3=>3 | 4=>4 | 5=>5 | 46=>218 | 146=>269 | 51=>51 | n=>n,fun | 1=>0 | n=>n⟩
theorem Tryz.lays219:Go.Proofs.Lays.n219 Tryz.prog Tryz.lays219_ren:={
 mixed:=by kernel_rfl
 f217:=Tryz.func213.trans (congrArg some (by kernel_rfl))
 f219:=Tryz.func189.trans (congrArg some (by kernel_rfl))
 f224:=Tryz.func215.trans (congrArg some (by kernel_rfl))
 f225:=Tryz.func214.trans (congrArg some (by kernel_rfl))
 f266:=Tryz.func225.trans (congrArg some (by kernel_rfl))
 f267:=Tryz.func216.trans (congrArg some (by kernel_rfl))
 f314:=Tryz.func226.trans (congrArg some (by kernel_rfl))
 t3:=Tryz.underlying3
 a3:=Tryz.isAgg3
 z3:=Tryz.sizeOf3
 v3:=Tryz.zeroValue3
 t4:=Tryz.underlying4
 a4:=Tryz.isAgg4
 z4:=Tryz.sizeOf4
 v4:=Tryz.zeroValue4
 t5:=Tryz.underlying5
 a5:=Tryz.isAgg5
 z5:=Tryz.sizeOf5
 v5:=Tryz.zeroValue5
 t9:=Tryz.underlying9
 a9:=Tryz.isAgg9
 z9:=Tryz.sizeOf9
 v9:=Tryz.zeroValue9
 t46:=Tryz.underlying218
 a46:=Tryz.isAgg218
 z46:=Tryz.sizeOf218
 v46:=Tryz.zeroValue218
 t51:=Tryz.underlying51
 a51:=Tryz.isAgg51
 z51:=Tryz.sizeOf51
 v51:=Tryz.zeroValue51
 t146:=Tryz.underlying269
 a146:=Tryz.isAgg269
 z146:=Tryz.sizeOf269
 v146:=Tryz.zeroValue269
 g1:=by kernel_rfl}
open Go.RowKit Go.Lib in
theorem Tryz.stringslite_Index_one (s:ByteArray)(c:UInt8)(w:World):
  Calls Tryz.prog 189 #[.string s,.string ⟨#[c]⟩] w fun e w'=>e= .returned (.int .i64 (Lib.indexByte s.data.toList c))∧w'=w:=Any.stringslite_Index_one Tryz.lays219 s c w
def Tryz.lays143_ren:Go.Shelf.Ren:=⟨fun | 143=>188 | 219=>189 | 217=>213 | 225=>214 | 224=>215 | 267=>216 | 266=>225 | 314=>226 | n=>n,fun | 9=>9 | 3=>3 | 4=>4 | 5=>5 | 46=>218 | 146=>269 | 51=>51 | n=>n,fun | 1=>0 | n=>n⟩
theorem Tryz.lays143:Go.Proofs.Lays.n143 Tryz.prog Tryz.lays143_ren:={
 mixed:=by kernel_rfl
 f143:=Tryz.func188.trans (congrArg some (by kernel_rfl))
 f217:=Tryz.func213.trans (congrArg some (by kernel_rfl))
 f219:=Tryz.func189.trans (congrArg some (by kernel_rfl))
 f224:=Tryz.func215.trans (congrArg some (by kernel_rfl))
 f225:=Tryz.func214.trans (congrArg some (by kernel_rfl))
 f266:=Tryz.func225.trans (congrArg some (by kernel_rfl))
 f267:=Tryz.func216.trans (congrArg some (by kernel_rfl))
 f314:=Tryz.func226.trans (congrArg some (by kernel_rfl))
 t3:=Tryz.underlying3
 a3:=Tryz.isAgg3
 z3:=Tryz.sizeOf3
 v3:=Tryz.zeroValue3
 t4:=Tryz.underlying4
 a4:=Tryz.isAgg4
 z4:=Tryz.sizeOf4
 v4:=Tryz.zeroValue4
 t5:=Tryz.underlying5
 a5:=Tryz.isAgg5
 z5:=Tryz.sizeOf5
 v5:=Tryz.zeroValue5
 t9:=Tryz.underlying9
 a9:=Tryz.isAgg9
 z9:=Tryz.sizeOf9
 v9:=Tryz.zeroValue9
 t46:=Tryz.underlying218
 a46:=Tryz.isAgg218
 z46:=Tryz.sizeOf218
 v46:=Tryz.zeroValue218
 t51:=Tryz.underlying51
 a51:=Tryz.isAgg51
 z51:=Tryz.sizeOf51
 v51:=Tryz.zeroValue51
 t146:=Tryz.underlying269
 a146:=Tryz.isAgg269
 z146:=Tryz.sizeOf269
 v146:=Tryz.zeroValue269
 g1:=by kernel_rfl}
open Go.RowKit Go.Lib in
theorem Tryz.strings_Index_one (s:ByteArray)(c:UInt8)(w:World):
  Calls Tryz.prog 188 #[.string s,.string ⟨#[c]⟩] w fun e w'=>e= .returned (.int .i64 (Lib.indexByte s.data.toList c))∧w'=w:=Any.strings_Index_one Tryz.lays143 s c w
def Tryz.lays138_ren:Go.Shelf.Ren:=⟨fun | 138=>187 | 195=>211 | 218=>212 | 143=>188 | 219=>189 | 217=>213 | 225=>214 | 224=>215 | 267=>216 | 266=>225 | 314=>226 | n=>n,fun | 9=>9 | 3=>3 | 4=>4 | 5=>5 | 0=>0 | 46=>218 | 146=>269 | 51=>51 | n=>n,fun | 1=>0 | n=>n⟩
theorem Tryz.lays138:Go.Proofs.Lays.n138 Tryz.prog Tryz.lays138_ren:={
 mixed:=by kernel_rfl
 f138:=Tryz.func187.trans (congrArg some (by kernel_rfl))
 f143:=Tryz.func188.trans (congrArg some (by kernel_rfl))
 f195:=Tryz.func211.trans (congrArg some (by kernel_rfl))
 f217:=Tryz.func213.trans (congrArg some (by kernel_rfl))
 f218:=Tryz.func212.trans (congrArg some (by kernel_rfl))
 f219:=Tryz.func189.trans (congrArg some (by kernel_rfl))
 f224:=Tryz.func215.trans (congrArg some (by kernel_rfl))
 f225:=Tryz.func214.trans (congrArg some (by kernel_rfl))
 f266:=Tryz.func225.trans (congrArg some (by kernel_rfl))
 f267:=Tryz.func216.trans (congrArg some (by kernel_rfl))
 f314:=Tryz.func226.trans (congrArg some (by kernel_rfl))
 t0:=Tryz.underlying0
 a0:=Tryz.isAgg0
 z0:=Tryz.sizeOf0
 v0:=Tryz.zeroValue0
 t3:=Tryz.underlying3
 a3:=Tryz.isAgg3
 z3:=Tryz.sizeOf3
 v3:=Tryz.zeroValue3
 t4:=Tryz.underlying4
 a4:=Tryz.isAgg4
 z4:=Tryz.sizeOf4
 v4:=Tryz.zeroValue4
 t5:=Tryz.underlying5
 a5:=Tryz.isAgg5
 z5:=Tryz.sizeOf5
 v5:=Tryz.zeroValue5
 t9:=Tryz.underlying9
 a9:=Tryz.isAgg9
 z9:=Tryz.sizeOf9
 v9:=Tryz.zeroValue9
 t46:=Tryz.underlying218
 a46:=Tryz.isAgg218
 z46:=Tryz.sizeOf218
 v46:=Tryz.zeroValue218
 t51:=Tryz.underlying51
 a51:=Tryz.isAgg51
 z51:=Tryz.sizeOf51
 v51:=Tryz.zeroValue51
 t146:=Tryz.underlying269
 a146:=Tryz.isAgg269
 z146:=Tryz.sizeOf269
 v146:=Tryz.zeroValue269
 g1:=by kernel_rfl}
open Go.RowKit Go.Lib in
theorem Tryz.strings_Count_one (s:ByteArray)(c:UInt8)(w:World):
  Calls Tryz.prog 187 #[.string s,.string ⟨#[c]⟩] w fun e w'=>e= .returned (.int .i64 (Lib.countByte s.data.toList c))∧w'=w:=Any.strings_Count_one Tryz.lays138 s c w
def Tryz.lays148_ren:Go.Shelf.Ren:=⟨fun | 148=>166 | 222=>196 | 223=>197 | 269=>219 | n=>n,fun | 9=>9 | 3=>3 | 4=>4 | 5=>5 | 146=>269 | 51=>51 | 46=>218 | n=>n,fun | n=>n⟩
theorem Tryz.lays148:Go.Proofs.Lays.n148 Tryz.prog Tryz.lays148_ren:={
 mixed:=by kernel_rfl
 f148:=Tryz.func166.trans (congrArg some (by kernel_rfl))
 f222:=Tryz.func196.trans (congrArg some (by kernel_rfl))
 f223:=Tryz.func197.trans (congrArg some (by kernel_rfl))
 f269:=Tryz.func219.trans (congrArg some (by kernel_rfl))
 t3:=Tryz.underlying3
 a3:=Tryz.isAgg3
 z3:=Tryz.sizeOf3
 v3:=Tryz.zeroValue3
 t4:=Tryz.underlying4
 a4:=Tryz.isAgg4
 z4:=Tryz.sizeOf4
 v4:=Tryz.zeroValue4
 t5:=Tryz.underlying5
 a5:=Tryz.isAgg5
 z5:=Tryz.sizeOf5
 v5:=Tryz.zeroValue5
 t9:=Tryz.underlying9
 a9:=Tryz.isAgg9
 z9:=Tryz.sizeOf9
 v9:=Tryz.zeroValue9
 t46:=Tryz.underlying218
 a46:=Tryz.isAgg218
 z46:=Tryz.sizeOf218
 v46:=Tryz.zeroValue218
 t51:=Tryz.underlying51
 a51:=Tryz.isAgg51
 z51:=Tryz.sizeOf51
 v51:=Tryz.zeroValue51
 t146:=Tryz.underlying269
 a146:=Tryz.isAgg269
 z146:=Tryz.sizeOf269
 v146:=Tryz.zeroValue269}
open Go.RowKit Go.Lib in
theorem Tryz.strings_LastIndex_one (s sub:ByteArray)(h1:sub.size=1)(hs:s.size<4611686018427387904)(w:World):
  Calls Tryz.prog 166 #[.string s,.string sub] w fun e w'=>e= .returned (.int .i64 (Lib.lastIndexByte s ((sub[0]'(by omega)).toNat:Int)))∧w'=w:=Any.strings_LastIndex_one Tryz.lays148 s sub h1 hs w
def Tryz.lays146_ren:Go.Shelf.Ren:=⟨fun | 146=>116 | 221=>158 | 268=>186 | 138=>187 | 143=>188 | 195=>211 | 197=>191 | 218=>212 | 219=>189 | 260=>217 | 217=>213 | 225=>214 | 224=>215 | 267=>216 | 266=>225 | 314=>226 | n=>n,fun | 9=>9 | 31=>34 | 3=>3 | 4=>4 | 0=>0 | 105=>247 | 21=>21 | 5=>5 | 46=>218 | 119=>273 | 139=>276 | 138=>275 | 146=>269 | 51=>51 | n=>n,fun | 1=>0 | 3=>1 | 4=>2 | n=>n⟩
theorem Tryz.lays146:Go.Proofs.Lays.n146 Tryz.prog Tryz.lays146_ren:={
 mixed:=by kernel_rfl
 f138:=Tryz.func187.trans (congrArg some (by kernel_rfl))
 f143:=Tryz.func188.trans (congrArg some (by kernel_rfl))
 f146:=Tryz.func116.trans (congrArg some (by kernel_rfl))
 f195:=Tryz.func211.trans (congrArg some (by kernel_rfl))
 f197:=Tryz.func191.trans (congrArg some (by kernel_rfl))
 f217:=Tryz.func213.trans (congrArg some (by kernel_rfl))
 f218:=Tryz.func212.trans (congrArg some (by kernel_rfl))
 f219:=Tryz.func189.trans (congrArg some (by kernel_rfl))
 f221:=Tryz.func158.trans (congrArg some (by kernel_rfl))
 f224:=Tryz.func215.trans (congrArg some (by kernel_rfl))
 f225:=Tryz.func214.trans (congrArg some (by kernel_rfl))
 f260:=Tryz.func217.trans (congrArg some (by kernel_rfl))
 f266:=Tryz.func225.trans (congrArg some (by kernel_rfl))
 f267:=Tryz.func216.trans (congrArg some (by kernel_rfl))
 f268:=Tryz.func186.trans (congrArg some (by kernel_rfl))
 f314:=Tryz.func226.trans (congrArg some (by kernel_rfl))
 t0:=Tryz.underlying0
 a0:=Tryz.isAgg0
 z0:=Tryz.sizeOf0
 v0:=Tryz.zeroValue0
 t3:=Tryz.underlying3
 a3:=Tryz.isAgg3
 z3:=Tryz.sizeOf3
 v3:=Tryz.zeroValue3
 t4:=Tryz.underlying4
 a4:=Tryz.isAgg4
 z4:=Tryz.sizeOf4
 v4:=Tryz.zeroValue4
 t5:=Tryz.underlying5
 a5:=Tryz.isAgg5
 z5:=Tryz.sizeOf5
 v5:=Tryz.zeroValue5
 t9:=Tryz.underlying9
 a9:=Tryz.isAgg9
 z9:=Tryz.sizeOf9
 v9:=Tryz.zeroValue9
 t21:=Tryz.underlying21
 a21:=Tryz.isAgg21
 z21:=Tryz.sizeOf21
 v21:=Tryz.zeroValue21
 t31:=Tryz.underlying34
 a31:=Tryz.isAgg34
 z31:=Tryz.sizeOf34
 v31:=Tryz.zeroValue34
 t46:=Tryz.underlying218
 a46:=Tryz.isAgg218
 z46:=Tryz.sizeOf218
 v46:=Tryz.zeroValue218
 t51:=Tryz.underlying51
 a51:=Tryz.isAgg51
 z51:=Tryz.sizeOf51
 v51:=Tryz.zeroValue51
 t105:=Tryz.underlying247
 a105:=Tryz.isAgg247
 z105:=Tryz.sizeOf247
 v105:=Tryz.zeroValue247
 t119:=Tryz.underlying273
 a119:=Tryz.isAgg273
 z119:=Tryz.sizeOf273
 t138:=Tryz.underlying275
 a138:=Tryz.isAgg275
 z138:=Tryz.sizeOf275
 v138:=Tryz.zeroValue275
 t139:=Tryz.underlying276
 a139:=Tryz.isAgg276
 z139:=Tryz.sizeOf276
 v139:=Tryz.zeroValue276
 t146:=Tryz.underlying269
 a146:=Tryz.isAgg269
 z146:=Tryz.sizeOf269
 v146:=Tryz.zeroValue269
 g1:=by kernel_rfl
 g3:=by kernel_rfl
 g4:=by kernel_rfl}
def Tryz.lays110_ren:Go.Shelf.Ren:=⟨fun | 110=>138 | 109=>173 | n=>n,fun | 31=>34 | 9=>9 | 4=>4 | 3=>3 | 0=>0 | n=>n,fun | n=>n⟩
theorem Tryz.lays110:Go.Proofs.Lays.n110 Tryz.prog Tryz.lays110_ren:={
 mixed:=by kernel_rfl
 f109:=Tryz.func173.trans (congrArg some (by kernel_rfl))
 f110:=Tryz.func138.trans (congrArg some (by kernel_rfl))
 t0:=Tryz.underlying0
 a0:=Tryz.isAgg0
 z0:=Tryz.sizeOf0
 v0:=Tryz.zeroValue0
 t3:=Tryz.underlying3
 a3:=Tryz.isAgg3
 z3:=Tryz.sizeOf3
 v3:=Tryz.zeroValue3
 t4:=Tryz.underlying4
 a4:=Tryz.isAgg4
 z4:=Tryz.sizeOf4
 v4:=Tryz.zeroValue4
 t9:=Tryz.underlying9
 a9:=Tryz.isAgg9
 z9:=Tryz.sizeOf9
 v9:=Tryz.zeroValue9
 t31:=Tryz.underlying34
 a31:=Tryz.isAgg34
 z31:=Tryz.sizeOf34
 v31:=Tryz.zeroValue34}
open Go.Lib in
theorem Tryz.slices_Contains_string (b off n c:Nat)(zs:List ByteArray)(x:ByteArray)(w:World)(hz:n≤zs.length)(hbig:n≤9223372036854775807)(hc:∀j,j<zs.length→w.cell? ⟨b,off+j,none⟩=some (.string (zs.getD j ByteArray.empty))):
  Calls Tryz.prog 138 #[.slice (some ⟨b,off,none⟩) n c,.string x] w fun e w'=>e= .returned (.bool (Lib.containsS (zs.take n) x))∧w'=w:=Any.slices_Contains_string Tryz.lays110 b off n c zs x w hz hbig hc
def Tryz.laysNm217_ren:Go.Shelf.Ren:=⟨fun | 17=>174 | n=>n,fun | 24=>34 | 9=>9 | 3=>3 | 4=>4 | 0=>0 | n=>n,fun | n=>n⟩
theorem Tryz.laysNm217:Go.Proofs.Lays2.n17 Tryz.prog Tryz.laysNm217_ren:={
 mixed:=by kernel_rfl
 f17:=Tryz.func174.trans (congrArg some (by kernel_rfl))
 t0:=Tryz.underlying0
 a0:=Tryz.isAgg0
 z0:=Tryz.sizeOf0
 v0:=Tryz.zeroValue0
 t3:=Tryz.underlying3
 a3:=Tryz.isAgg3
 z3:=Tryz.sizeOf3
 v3:=Tryz.zeroValue3
 t4:=Tryz.underlying4
 a4:=Tryz.isAgg4
 z4:=Tryz.sizeOf4
 v4:=Tryz.zeroValue4
 t9:=Tryz.underlying9
 a9:=Tryz.isAgg9
 z9:=Tryz.sizeOf9
 v9:=Tryz.zeroValue9
 t24:=Tryz.underlying34
 a24:=Tryz.isAgg34
 z24:=Tryz.sizeOf34
 v24:=Tryz.zeroValue34}
open Go.RowKit Go.Lib Go.Sort in
theorem Tryz.slices_Reverse_string_cells (b off n c:Nat)(Sx:Nat→ByteArray)(w:World)(hbig:n≤9223372036854775807)(hc:∀i,i<n→w.cell? ⟨b,off+i,none⟩=some (.string (Sx i)))(hf:∀j,j<n→w.frozen? ⟨b,off+j,none⟩=false):
  Calls Tryz.prog 174 #[.slice (some ⟨b,off,none⟩) n c] w fun e w'=>e= .returned (.tuple #[])∧∃q,w'=(w.drewN q).setCells b off ((Lib.strsOf Sx n).reverse.map encStr):=Any.slices_Reverse_string_cells Tryz.laysNm217 b off n c Sx w hbig hc hf
end Go.Proofs
namespace Sw
open Go Go.RowKit
theorem slash_split {l:List UInt8}{i:Nat}(h:Lib.indexByte l 47=i):i<l.length∧l=l.take i++47::l.drop (i+1)∧(47:UInt8)∉l.take i:=by
 obtain⟨h1,h2⟩:=Lib.indexByte_some h;have hlt:i<l.length:=(List.getElem?_eq_some_iff.1 h1).1;have he:l[i]=47:=(List.getElem?_eq_some_iff.1 h1).2;refine⟨hlt,?_,?_⟩
 ·conv=>lhs;rw[←List.take_append_drop i l]
  rw[List.drop_eq_getElem_cons hlt,he]
 ·intro hm;obtain⟨k,hk,hke⟩:=List.getElem_of_mem hm;rw[zL] at hk;rw[List.getElem_take] at hke;exact h2 k (by omega) (by rw[zM (by omega),hke])
theorem slash_none {l:List UInt8}(h:Lib.indexByte l 47= -1):(47:UInt8)∉l:=by
 intro hm;obtain⟨k,hk,hke⟩:=List.getElem_of_mem hm;exact Lib.indexByte_none h k (by rw[zM hk,hke])
def spS (s:ByteArray):List ByteArray:=(spL s.data.toList).map mkB
theorem spL_len:∀l:List UInt8,(spL l).length≤l.length+1
 | []=>by simp [spL]
 | b::l=>by
  have:=spL_len l;rw[spL];split
  ·simp;omega
  ·have h:=congrArg List.length (spL_head l);simp at h⊢
   omega
theorem spS_len (s:ByteArray):(spS s).length≤s.size+1:=by
 unfold spS;rw[zS];have:=spL_len s.data.toList;have h:s.data.toList.length=s.size:=by simp
 omega
theorem ext_take (X:ByteArray)(n:Nat):(X.extract 0 n).data.toList=X.data.toList.take n:=by
 rw[ByteArray.data_extract,Array.toList_extract,List.extract_eq_take_drop];simp
theorem spS_hit {X:ByteArray}{i:Nat}(h:Lib.indexByte X.data.toList 47=i):i<X.size∧spS X=X.extract 0 i::spS (X.extract (i+1) X.size):=by
 obtain⟨h1,h2,h3⟩:=slash_split h;have hs:X.data.toList.length=X.size:=by simp
 refine⟨by omega,?_⟩;unfold spS;rw[ext_drop,←mkB_data (X.extract 0 i),ext_take]
 conv=>lhs;rw[h2]
 rw[spL_app _ _ h3];rfl
theorem spS_miss {X:ByteArray}(h:Lib.indexByte X.data.toList 47= -1):spS X=[X]:=by
 unfold spS;rw[spL_none _ (slash_none h),List.map_singleton,mkB_data]
theorem spS_ne (X:ByteArray):spS X≠[]:=by
 unfold spS;intro h;exact spL_ne X.data.toList (List.map_eq_nil_iff.1 h)
abbrev Pc (M:Nat):={x:ByteArray//x.size≤M}
structure Kp3 (a b c:Nat) (W W':World):Prop where
 size:W.heap.size≤W'.heap.size
 block:∀k,k=a∨k=b∨k=c→W'.heap[k]? =W.heap[k]?
theorem Kp3.trans {a b c:Nat}{A B C:World}(h:Kp3 a b c A B)(k:Kp3 a b c B C):Kp3 a b c A C:=⟨zT h.size k.size,fun i hi=>(k.block i hi).trans (h.block i hi)⟩
theorem Kp3.turn {a b c:Nat}{w:World}(ha:a<w.heap.size)(hb:b<w.heap.size)(hc:c<w.heap.size)(W:World)(l:Nat)(o o':Obj)(hl:w.heap.size≤l):Kp3 a b c W (W.putObj l o'):=
 ⟨by simp,fun k hk=>World.putObj_heap_other (by rcases hk with rfl | rfl | rfl<;>omega)⟩
end Sw
namespace Go.Proofs.YtnpehjgnplaabaaGreatDoor
open Go Go.RowKit Go.Shelf
open Sw
attribute [local go_sem] Oper.semAt_some
theorem splitSeq_any (w:World)(s sep:ByteArray):
  Calls Tryz.prog 162 #[.string s,.string sep,.int .i64 0] w fun e w'=>e= .returned (.func (.func 190) #[] #[.pointer (some ⟨w.heap.size+1,0,none⟩),.pointer (some ⟨w.heap.size,0,none⟩),.pointer (some ⟨w.heap.size+1+1,0,none⟩)])∧w'=((w.alloc (.cells #[.string s] 9)).alloc (.cells #[.string sep] 9)).alloc (.cells #[.int .i64 0] 3):=by
 go_enter Tryz.func162,Tryz.ntmps162
 go_wp2_with fail
 go_ret;exact⟨rfl,rfl⟩
theorem SplitSeq_any (w:World)(s sep:ByteArray):
  Calls Tryz.prog 121 #[.string s,.string sep] w fun e w'=>e= .returned (.func (.func 190) #[] #[.pointer (some ⟨w.heap.size+1,0,none⟩),.pointer (some ⟨w.heap.size,0,none⟩),.pointer (some ⟨w.heap.size+1+1,0,none⟩)])∧w'=((w.alloc (.cells #[.string s] 9)).alloc (.cells #[.string sep] 9)).alloc (.cells #[.int .i64 0] 3):=by
 have HS:=zH (splitSeq_any w s sep);go_enter Tryz.func121,Tryz.ntmps121
 go_wp2_with fail
 refine HS.out.mono ?_;rintro e w1 ⟨rfl,rfl⟩;go_wp2_with fail
 go_ret;exact⟨rfl,rfl⟩
theorem splitSeq_owns (n:Nat)(hn:2≤n)(bp bs bv:Nat)(s:ByteArray)(w:World)(hsz:s.size≤1000000)(hp:Blk w bp 9 #[.string ⟨#[47]⟩])(hs:Blk w bs 9 #[.string s])(hv:Blk w bv 3 #[.int .i64 0])(hne:bp≠bs):
  SeqOwns (fun k=>k=bs) Fence.wide n Tryz.prog 190 #[.pointer (some ⟨bp,0,none⟩),.pointer (some ⟨bs,0,none⟩),.pointer (some ⟨bv,0,none⟩)] (fun x:Pc s.size=> #[.string x.1]) (Kp3 bp bs bv) (fun xs=>xs.map (·.1)=spS s) (fun pre=>∃r,spS s=pre.map (·.1)++r) (s.size+1) w:=fun l J Jx W hW hJ hJx hY hJ0=>by
 have hPW:=hp.below hW hp.lt;have hSW:=hs.below hW hs.lt;have hVW:=hv.below hW hv.lt;have HI:=zH (Tryz.strings_Index_one);have hvs:bv≠bs:=fun e=>Blk.other hv hs (by decide) e
 have HY:=zH hY;clear hY;have HJ:=zH hJ;clear hJ hJx;have c1:=hPW.cell 0;simp at c1
 refine callsIn_of_wp Tryz.func190 rfl trivial ?_ rfl;simp only[Tryz.ntmps190,List.size_toArray,zI,List.length_nil,Nat.reduceAdd,Nat.reduceSub,Array.replicate_succ,Array.replicate_zero,List.push_toArray,List.append_toArray,List.nil_append,List.cons_append];gi_wp2
 gi_loopw [7,8] (fun _ _ wr=>∃(X:ByteArray) (pre:List (Pc s.size)),X.size≤s.size∧Blk wr bp 9 #[.string ⟨#[47]⟩]∧Blk wr bs 9 #[.string X]∧Blk wr bv 3 #[.int .i64 0]∧pre.map (·.1)++spS X=spS s∧J pre wr∧W.heap.size≤wr.heap.size) (fun _ _ wr=>strSz ((wr.cell? ⟨bs,0,none⟩).getD undef))
 case atStart=>exact⟨s,[],zN _,hPW,hSW,hVW,rfl,hJ0,zN _⟩
 case round=>
  obtain⟨X,pre,hX,hP,hS,hV,hpre,hJs,hWs⟩:=hrel;have r1:=hP.cell 0;have r2:=hS.cell 0;have r3:=hV.cell 0;have r4:=hS.frozen 0;simp at r1 r2 r3
  have hix:=HI.out X 47 wr;have hlen:=congrArg List.length hpre;rw[zF,zS] at hlen;have htot:=spS_len s;have hpos:0<(spS X).length:=List.length_pos_iff.2 (spS_ne X);have hge:=Lib.indexByte_ge X.data.toList 47;obtain⟨j,hj⟩:∃j,Lib.indexByte X.data.toList 47=j:=⟨_,rfl⟩;rw[hj] at hix hge;have HIX:=zH hix;clear hix;by_cases h0:j<0
  ·obtain rfl:j= -1:=by omega
   have hmiss:=spS_miss hj;rw[hmiss] at hpre;obtain⟨fn,tmps,assign,body,hy,hR⟩:=HY.out pre ⟨X,hX⟩ wr hJs (by omega);have HP:=zH hpre;clear hpre hmiss hlen hpos;(gi_wp2);refine⟨trivial,fun _=>by omega,?_⟩;refine(callsIn_wide.2 HIX.out).mono ?_;rintro e W1 ⟨rfl,rfl⟩;(gi_wp2);refine⟨fun _=>by omega,hR.mono ?_⟩;rintro e W3 (⟨rfl,hJ3,hk3⟩ | ⟨rfl,hJx3⟩)
   ·(gi_wp2);(go_end0);refine⟨⟨_,rfl⟩,.inl ⟨_,?_,hJ3⟩⟩;rw[List.map_append];exact HP.out
   ·(gi_wp2);(go_end0);refine⟨⟨_,rfl⟩,.inr ⟨_,⟨[],?_⟩,hJx3⟩⟩;rw[List.map_append,List.append_nil];exact HP.out.symm
  ·obtain⟨i,rfl⟩:=Int.eq_ofNat_of_zero_le (show 0≤j by omega);obtain⟨hiX,hhit⟩:=spS_hit hj;rw[hhit] at hpre;have hz1:(X.extract 0 i).size≤s.size:=by rw[ByteArray.size_extract];omega
   (have hz2:(X.extract (i+1) X.size).size≤s.size:=by rw[ByteArray.size_extract];omega);(have hz3:(X.extract (i+1) X.size).size<X.size:=by rw[ByteArray.size_extract];omega);obtain⟨fn,tmps,assign,body,hy,hR⟩:=HY.out pre ⟨X.extract 0 i,hz1⟩ wr hJs (by omega);have HP:=zH hpre;clear hpre hhit hlen hpos;(gi_wp2);refine⟨trivial,fun _=>by omega,?_⟩;refine(callsIn_wide.2 HIX.out).mono ?_;rintro e W1 ⟨rfl,rfl⟩;(gi_wp2);refine⟨fun _=>by omega,hR.mono ?_⟩;rintro e W3 (⟨rfl,hJ3,hk3⟩ | ⟨rfl,hJx3⟩)
   ·have hP3:Blk W3 bp 9 #[.string ⟨#[47]⟩]:=(hk3.block bp (.inl rfl)).trans hP;have hS3:Blk W3 bs 9 #[.string X]:=(hk3.block bs (.inr (.inl rfl))).trans hS;have hV3:Blk W3 bv 3 #[.int .i64 0]:=(hk3.block bv (.inr (.inr rfl))).trans hV;have q1:=hP3.cell 0;have q2:=hS3.cell 0;have q4:=hS3.frozen 0;(simp at q1 q2);have HH:=zH (zA hP3 (zA hS3 (zA hV3 hk3.size)));clear hP3 hS3 hV3 hk3;have HJ3:=zH hJ3;clear hJ3;(gi_wp2);go_roundw
    case rel=>
     refine⟨_,pre++[⟨X.extract 0 i,hz1⟩],hz2,HH.out.1.far (p:=⟨bs,0,none⟩) hne _,HH.out.2.1.put 0 _,HH.out.2.2.1.far (p:=⟨bs,0,none⟩) hvs _,?_,?_,?_⟩
     ·rw[List.map_append,zV];exact HP.out
     ·exact HJ.out _ W3 _ (some bs) HJ3.out (grown_put (grown_refl _ _) 0 _) (fun r e=> .inl (by cases e;rfl))
     ·have:=HH.out.2.2.2;(simp [World.setCell]);omega
    case measure=>
     have e1:=(HH.out.2.1.put 0 (.string (X.extract (i+1) X.size))).cell 0;have e2:=hS.cell 0;(simp at e1 e2);rw[e1,e2];exact hz3
   ·(gi_wp2);refine bodyPost_ret (results_none rfl _ _ _) rfl ?_;refine⟨⟨_,rfl⟩,.inr ⟨_,⟨spS (X.extract (i+1) X.size),?_⟩,hJx3⟩⟩;rw[List.map_append,zV];exact HP.out.symm
end Go.Proofs.YtnpehjgnplaabaaGreatDoor
namespace Go.Proofs.YtnpehjgnplaabaaGreatDoor
open Go Go.RowKit
open Sw
theorem refPart_any (w:World)(s:ByteArray)(hs:s.size≤1000000):
  Calls Tryz.prog 149 #[.string s] w fun e w'=>e= .returned (.bool (partL s.data.toList))∧w=w':=by
 have HL:=zH (refUtf_any w s hs);obtain⟨U,hU⟩:∃U,partL s.data.toList=U:=⟨_,rfl⟩;have HP:=zH (show partL s.data.toList=(s.data.toList.all okB&&decide (1≤s.data.toList.length∧s.data.toList.length≤60)&&decide (s.data.toList≠[46])&&decide (s.data.toList≠[46,46])&&utfD 0 0 0 s.data.toList) from rfl);rw[hU] at HP⊢;have HU:=zH hU;clear hU;go_enter Tryz.func149,Tryz.ntmps149
 go_wp2_with fail
 go_loopw [2,3,4] (fun r iv _ wr=>∃i:Nat,i≤s.size∧r= .bool false∧iv= .int .i64 i∧(s.data.toList.take i).all okB=true∧w=wr) (fun _ iv _ _=>s.size-(intOf iv).toNat)
 case atStart=>exact⟨0,Nat.zero_le _,rfl,rfl,by simp,rfl⟩
 case round=>
  obtain⟨i,hi,rfl,rfl,hall,rfl⟩:=hrel;by_cases hlt:i<s.size
  ·have hok:okB s[i]= !(decide (s[i].toNat<32)||decide (s[i].toNat=127)||decide (s[i].toNat=47)||decide (s[i].toNat=92)||decide (s[i].toNat=58)):=rfl;have hstep:=all_step s i hlt hall;have hbad:=fun h=>partL_bad (l:=s.data.toList) (i:=i) (by simpa using hlt) h
   have hel:s.data.toList[i]'(by simpa using hlt)=s[i]:=rfl;rw[hel] at hbad;generalize okB s[i]=ok at*;have hc6:s[i].toNat<256:=s[i].toNat_lt;generalize hx:s[i].toNat=x at*;(have hxI:((s[i].toNat:Nat):Int)=x:=by rw[hx]);clear hx hel;have HOK:=zH hok;clear hok;have HST:=zH hstep;clear hstep hall;have HBD:=zH hbad;clear hbad;(go_upto_region 5 with fail);go_cut [31] from 14 to 31 (fun v wx=>v= .bool (!ok)∧wx=w)
   case first=>
    by_cases c1:x<32
    ·have HV:=zH (show ok=false by rw[HOK.out,zE c1];rfl);(have t1:(x:Int)<32:=by omega);clear c1;(go_wp2_with fail);go_meet
     case rel=>exact⟨by rw[HV.out];first | done | rfl,rfl⟩
    ·skip
     by_cases c2:x=127
     ·have HV:=zH (show ok=false by rw[HOK.out,zD c1,zE c2];rfl);(have t1:¬(x:Int)<32:=by omega);(have e1:((x:Int)==127)=true:=by rw[beq_iff_eq];omega);clear c1 c2;(go_wp2_with fail);go_meet
      case rel=>exact⟨by rw[HV.out];first | done | rfl,rfl⟩
     ·skip
      by_cases c3:x=47
      ·have HV:=zH (show ok=false by rw[HOK.out,zD c1,zD c2,zE c3];rfl);(have t1:¬(x:Int)<32:=by omega);(have e1:((x:Int)==127)=false:=by rw[zB];omega);(have e2:((x:Int)==47)=true:=by rw[beq_iff_eq];omega);clear c1 c2 c3;(go_wp2_with fail);go_meet
       case rel=>exact⟨by rw[HV.out];first | done | rfl,rfl⟩
      ·skip
       by_cases c4:x=92
       ·have HV:=zH (show ok=false by rw[HOK.out,zD c1,zD c2,zD c3,zE c4];rfl);(have t1:¬(x:Int)<32:=by omega);(obtain⟨e1,e2⟩:((x:Int)==127)=false∧((x:Int)==47)=false:=by simp only[zB];omega);(have e3:((x:Int)==92)=true:=by rw[beq_iff_eq];omega);clear c1 c2 c3 c4;(go_wp2_with fail);go_meet
        case rel=>exact⟨by rw[HV.out];first | done | rfl,rfl⟩
       ·skip
        by_cases c5:x=58
        ·have HV:=zH (show ok=false by rw[HOK.out,zD c1,zD c2,zD c3,zD c4,zE c5];rfl);(have t1:¬(x:Int)<32:=by omega);(obtain⟨e1,e2,e3⟩:((x:Int)==127)=false∧((x:Int)==47)=false∧((x:Int)==92)=false:=by simp only[zB];omega);(have e4:((x:Int)==58)=true:=by rw[beq_iff_eq];omega);clear c1 c2 c3 c4 c5;(go_wp2_with fail);go_meet
         case rel=>exact⟨by rw[HV.out];first | done | rfl,rfl⟩
        ·have HV:=zH (show ok=true by rw[HOK.out,zD c1,zD c2,zD c3,zD c4,zD c5];rfl);(have t1:¬(x:Int)<32:=by omega);(obtain⟨e1,e2,e3,e4⟩:((x:Int)==127)=false∧((x:Int)==47)=false∧((x:Int)==92)=false∧((x:Int)==58)=false:=by simp only[zB];omega);clear c1 c2 c3 c4 c5;(go_wp2_with fail);go_meet
         case rel=>exact⟨by rw[HV.out];first | done | rfl,rfl⟩
   case rest=>
    obtain⟨rfl,rfl⟩:=hcut;clear HOK;cases ok with
    | false=>
     have HF:=zH (show U=false by rw[←HU.out];exact HBD.out rfl);(go_wp2_with fail);go_ret;exact⟨by rw[HF.out];first | done | rfl,rfl⟩
    | true=>
     have HN:=zH (HST.out rfl);(go_wp2_with fail);go_roundw
     case rel=>exact⟨i+1,by omega,rfl,by go_num,HN.out,by simp⟩
     case measure=>simp [intOf];omega
  ·obtain rfl:i=s.size:=by omega
   rw[zO (by simp)] at hall;have hP:=HP.out;(have hlen:s.data.toList.length=s.size:=by simp);have hs1:=str_eq_iff s [46];have hs2:=str_eq_iff s [46,46];rw[hall,hlen,Bool.true_and] at hP;clear hall HP HU hlen hlt;generalize s.data.toList=L at*;generalize utfD 0 0 0 L=V at*;have HP:=zH hP;clear hP;by_cases c1:(0:Int)<s.size
   ·by_cases c2:(s.size:Int)≤60
    ·by_cases c3:L=[46]
     ·(have hb:(s.toList==[46])=true:=by rw[hs1,zE c3]);have HF:=zH (show U=false by rw[HP.out,zE (show 1≤s.size∧s.size≤60 by omega),zD (fun h=>h c3)];rfl);clear hs1 hs2 c3;(go_wp2_with fail);go_ret;exact⟨by rw[HF.out];first | done | rfl,rfl⟩
     ·(have hb:(s.toList==[46])=false:=by rw[hs1,zD c3]);by_cases c4:L=[46,46]
      ·(have hb2:(s.toList==[46,46])=true:=by rw[hs2,zE c4]);have HF:=zH (show U=false by rw[HP.out,zE (show 1≤s.size∧s.size≤60 by omega),zE c3,zD (fun h=>h c4)];rfl);clear hs1 hs2 c3 c4;(go_wp2_with fail);go_ret;exact⟨by rw[HF.out];first | done | rfl,rfl⟩
      ·(have hb2:(s.toList==[46,46])=false:=by rw[hs2,zD c4]);have HF:=zH (show U=V by rw[HP.out,zE (show 1≤s.size∧s.size≤60 by omega),zE c3,zE c4];rfl);clear hs1 hs2 c3 c4;(go_wp2_with fail);refine HL.out.mono ?_;rintro e w1 ⟨rfl,rfl⟩;(go_wp2_with fail);go_ret;exact⟨by rw[HF.out];first | done | rfl,rfl⟩
    ·have HF:=zH (show U=false by rw[HP.out,zD (show ¬(1≤s.size∧s.size≤60) by omega)];rfl);clear hs1 hs2;(go_wp2_with fail);go_ret;exact⟨by rw[HF.out];first | done | rfl,rfl⟩
   ·have HF:=zH (show U=false by rw[HP.out,zD (show ¬(1≤s.size∧s.size≤60) by omega)];rfl);clear hs1 hs2;(go_wp2_with fail);go_ret;exact⟨by rw[HF.out];first | done | rfl,rfl⟩
def bE (t:ByteArray):List Value:=[.string t]
theorem bE_len (t:ByteArray):(bE t).length=1:=rfl
theorem info_str:(Tryz.prog.info? 9).map (fun i=>(i.zero,i.size,i.bytes))=some (some (.string ByteArray.empty),1,16):=by kernel_rfl
def StrPost (l:List ByteArray) (w:World) (e:Ending) (w':World):Prop:=∃v,e= .returned v∧w'.ownsRow w.heap.size 9 1 v l.length (l.flatMap bE)∧Below w.heap.size w w'
theorem mkB_cat (cur:List UInt8)(s:ByteArray)(i:Nat)(h:i<s.size):mkB cur++s.extract i (i+1)=mkB (cur++[s[i]]):=by
 apply ByteArray.ext;rw[ByteArray.data_append,ByteArray.data_extract];apply Array.ext';rw[Array.toList_append,Array.toList_extract,List.extract_eq_take_drop];have hd:s.data.toList.drop i=s[i]::s.data.toList.drop (i+1):=by rw[List.drop_eq_getElem_cons (by simpa using h)];rfl
 rw[hd,show i+1-i=1 by omega];simp [mkB]
theorem flat_snoc (l:List ByteArray)(x:ByteArray):(l++[x]).flatMap bE=l.flatMap bE++[.string x]:=by simp [bE]
theorem refSplit_any (w:World)(s:ByteArray)(hs:s.size≤100000):
  Calls Tryz.prog 148 #[.string s] w (StrPost (spS s) w):=by
 have HF:=zH (fun v l w' (hl:l=spS s) (h:w'.ownsRow w.heap.size 9 1 v l.length (l.flatMap bE)) (hb:Below w.heap.size w w')=>(show StrPost (spS s) w (.returned v) w' from⟨v,rfl,by rw[←hl];exact h,hb⟩));have htot:=spS_len s;go_enter Tryz.func148,Tryz.ntmps148
 go_wp2_with fail
 go_loopw [3,4,5] (fun o cv iv wr=>∃(i:Nat) (out:List ByteArray) (cur:List UInt8),i≤s.size∧iv= .int .i64 i∧cv= .string (mkB cur)∧(47:UInt8)∉cur∧cur.length≤i∧out.length≤i∧out++(spL (cur++s.data.toList.drop i)).map mkB=spS s∧wr.ownsRow w.heap.size 9 1 o out.length (out.flatMap bE)∧Below w.heap.size w wr) (fun _ _ iv _=>s.size-(intOf iv).toNat)
 case atStart=>exact⟨0,[],[],Nat.zero_le _,rfl,rfl,by simp,by simp,by simp,rfl,⟨rfl,.inl ⟨rfl,rfl⟩⟩,zR _ _⟩
 case round=>
  obtain⟨i,out,cur,hi,rfl,rfl,hno,hcl,hol,hsp,hown,hbw⟩:=hrel;by_cases hlt:i<s.size
  ·have hd:s.data.toList.drop i=s[i]::s.data.toList.drop (i+1):=by rw[List.drop_eq_getElem_cons (by simpa using hlt)];rfl
   rw[hd] at hsp;have hcs:=mkB_size cur;by_cases hb:s[i]=47
   ·(have hbb:((s[i].toNat:Int)==47)=true:=by rw[hb];rfl);rw[hb,spL_app cur _ hno,List.map_cons] at hsp;(have hsp':(out++[mkB cur])++(spL ([]++s.data.toList.drop (i+1))).map mkB=spS s:=by rw[zV];exact hsp);have hrs:=flat_snoc out (mkB cur);(have hl1:(out++[mkB cur]).length=out.length+1:=by simp);(have hl6:out.length+1≤1000000:=by omega);have HRS:=zH (zA hrs hl1);clear hrs hl1;have HO:=zH hown;clear hown;have HSP:=zH hsp';clear hsp' hsp hd hb;have hx0:(⟨#[]⟩:ByteArray)=mkB []:=rfl;have HX0:=zH hx0;clear hx0;generalize mkB cur=C at*;(go_wp2_with (refine wpList_app rfl _ _ 34 rfl w.heap.size 9 _ _ _ Tryz.underlying34 info_str rfl (by omega) u3 out.length (out.flatMap bE) (by simp [Act.eval,Act.put]) (own_kept HO.out ((zR _ _).alloc (zN _) _)) wr.heap.size 1 _ _ (by simp [Act.eval,Act.put]) (Blk.new _ _ _) rfl (by simp [Value.oneCell']) hl6 (by omega) (by have:=hbw.size;simp;omega) _ rfl ?_;intro g2 cap2 w5 ho2 hg2 hat2 hlt2));have hw5:Below w.heap.size w w5:=own_below HO.out (hbw.alloc hbw.size _) hg2 (zN _) (by have:=hbw.size;simp;omega);go_roundw
    case rel=>exact⟨i+1,out++[C],[],by omega,by go_num,by rw[HX0.out],by simp,by simp,by rw[HRS.out.2];omega,HSP.out,by rw[HRS.out.1,HRS.out.2];exact ho2,hw5⟩
    case measure=>simp [intOf];omega
   ·have hbb:((s[i].toNat:Int)==47)=false:=by
     rw[zB];intro e;apply hb;(have h47:s[i].toNat=47:=by omega);exact UInt8.toNat_inj.1 (h47.trans rfl)
    (have hsp':out++(spL ((cur++[s[i]])++s.data.toList.drop (i+1))).map mkB=spS s:=by rw[zV];exact hsp);have hno':(47:UInt8)∉cur++[s[i]]:=by
     rw[List.mem_append,List.mem_singleton,not_or];exact⟨hno,fun e=>hb e.symm⟩
    have hcat:mkB cur++s.extract i (i+1)=mkB (cur++[s[i]]):=mkB_cat cur s i hlt;(have hes:(s.extract i (i+1)).size=1:=by rw[ByteArray.size_extract];omega);have HO:=zH hown;clear hown;have HSP:=zH (zA hsp' (zA hno' hcat));clear hsp' hsp hd hb hno' hcat;generalize mkB cur=C at*;(go_wp2_with fail);go_roundw
    case rel=>exact⟨i+1,out,cur++[s[i]],by omega,by go_num,by rw[HSP.out.2.2],HSP.out.2.1,by simp;omega,by omega,HSP.out.1,HO.out,hbw⟩
    case measure=>simp [intOf];omega
  ·obtain rfl:i=s.size:=by omega
   rw[List.drop_of_length_le (by simp),List.append_nil,spL_none cur hno,List.map_singleton] at hsp;have hrs:=flat_snoc out (mkB cur);(have hl1:(out++[mkB cur]).length=out.length+1:=by simp);(have hl6:out.length+1≤1000000:=by omega);have HRS:=zH (zA hrs hl1);clear hrs hl1;have HO:=zH hown;clear hown;have HSP:=zH hsp;clear hsp hlt;generalize mkB cur=C at*;(go_wp2_with (refine wpList_app rfl _ _ 34 rfl w.heap.size 9 _ _ _ Tryz.underlying34 info_str rfl (by omega) u3 out.length (out.flatMap bE) (by simp [Act.eval,Act.put]) (own_kept HO.out ((zR _ _).alloc (zN _) _)) wr.heap.size 1 _ _ (by simp [Act.eval,Act.put]) (Blk.new _ _ _) rfl (by simp [Value.oneCell']) hl6 (by omega) (by have:=hbw.size;simp;omega) _ rfl ?_;intro g2 cap2 w5 ho2 hg2 hat2 hlt2));have hw5:Below w.heap.size w w5:=own_below HO.out (hbw.alloc hbw.size _) hg2 (zN _) (by have:=hbw.size;simp;omega);have HFIN:=zH (HF.out _ (out++[C]) w5 HSP.out (by rw[HRS.out.1,HRS.out.2];exact ho2) hw5);go_ret;exact HFIN.out
end Go.Proofs.YtnpehjgnplaabaaGreatDoor
namespace Sw
open Go Go.RowKit
def headS (s:ByteArray):ByteArray:=mkB ((spL s.data.toList).headD [])
theorem head_hit {X:ByteArray}{i:Nat}(h:Lib.indexByte X.data.toList 47=i):headS X=X.extract 0 i:=by
 have h2:=(spS_hit h).2;unfold spS at h2;unfold headS;cases hs:spL X.data.toList with
 | nil=>exact absurd hs (spL_ne _)
 | cons a t=>
  rw[hs,List.map_cons] at h2;injection h2
theorem head_miss {X:ByteArray}(h:Lib.indexByte X.data.toList 47= -1):headS X=X:=by
 have h2:=spS_miss h;unfold spS at h2;unfold headS;cases hs:spL X.data.toList with
 | nil=>exact absurd hs (spL_ne _)
 | cons a t=>
  rw[hs,List.map_cons] at h2;injection h2
end Sw
namespace Go.Proofs.YtnpehjgnplaabaaGreatDoor
open Go Go.RowKit Go.Shelf
open Sw
attribute [local go_sem] Oper.semAt_some
theorem cutLite_any (w:World)(s:ByteArray)(hs:s.size≤1000000):
  Calls Tryz.prog 161 #[.string s,.string ⟨#[47]⟩] w fun e w'=>(∃r b,e= .returned (.tuple #[.string (headS s),.string r,.bool b]))∧∃m,w'=w.drewN m:=by
 have hix:=Tryz.stringslite_Index_one s 47 w;have hge:=Lib.indexByte_ge s.data.toList 47;obtain⟨j,hj⟩:∃j,Lib.indexByte s.data.toList 47=j:=⟨_,rfl⟩;rw[hj] at hix hge;have HIX:=zH hix;clear hix;by_cases h0:j<0
 ·obtain rfl:j= -1:=by omega
  have hh:=zH (head_miss hj);clear hj hge;go_enter Tryz.func161,Tryz.ntmps161
  go_wp2_with fail
  refine HIX.out.mono ?_;rintro e w1 ⟨rfl,rfl⟩;go_wp2_with fail
  go_ret3
  exact⟨⟨_,_,by rw[hh.out];first | done | rfl⟩,0,rfl⟩
 ·obtain⟨i,rfl⟩:=Int.eq_ofNat_of_zero_le (show 0≤j by omega);obtain⟨hiX,_⟩:=spS_hit hj;have hh:=zH (head_hit hj);clear hj hge;have hi1:(i:Int)+1≤s.size:=by omega
  go_enter Tryz.func161,Tryz.ntmps161
  go_wp2_with fail
  refine HIX.out.mono ?_;rintro e w1 ⟨rfl,rfl⟩;go_wp2_with fail
  go_region
  go_wp2_with fail
  go_ret3
  exact⟨⟨_,_,by rw[hh.out];first | done | rfl⟩,_,rfl⟩
theorem cut_any (w:World)(s:ByteArray)(hs:s.size≤1000000):
  Calls Tryz.prog 119 #[.string s,.string ⟨#[47]⟩] w fun e w'=>(∃r b,e= .returned (.tuple #[.string (headS s),.string r,.bool b]))∧∃m,w'=w.drewN m:=by
 have HC:=zH (cutLite_any w s hs);go_enter Tryz.func119,Tryz.ntmps119
 go_wp2_with fail
 refine HC.out.mono ?_;rintro e w1 ⟨⟨r,b,rfl⟩,m,rfl⟩;go_wp2_with fail
 go_ret3
 exact⟨⟨_,_,rfl⟩,_,rfl⟩
theorem reserved_any (w:World):
  Calls Tryz.prog 120 #[] w fun e w'=>e= .returned (.string ⟨#[46,115,119,105,110,103,108,101]⟩)∧w=w':=by
 go_enter Tryz.func120,Tryz.ntmps120
 go_wp2_with fail
 go_ret;exact⟨rfl,rfl⟩
end Go.Proofs.YtnpehjgnplaabaaGreatDoor
namespace Sw
open Go Go.RowKit
theorem rightL_long {s:ByteArray}(h:200<s.size):rightL s.data.toList=false:=by
 unfold rightL;rw[zD (show ¬s.data.toList.length≤200 by
                              (have:s.data.toList.length=s.size:=by simp);omega)]
 simp
theorem rightL_res {s:ByteArray}(h:headS s=mkB resL):rightL s.data.toList=false:=by
 unfold headS at h;have h2:(spL s.data.toList).headD []=resL:=by
  have:=congrArg (fun b:ByteArray=>b.data.toList) h
  simpa [data_mkB] using this
 unfold rightL;rw[h2];simp
theorem rightL_bad {s:ByteArray}{pre:List ByteArray}{x:ByteArray}{r:List ByteArray}(h:spS s=(pre++[x])++r)(hb:partL x.data.toList=false∨12<(pre++[x]).length):rightL s.data.toList=false:=by
 have h1:=congrArg (List.map (fun b:ByteArray=>b.data.toList)) h;unfold spS at h1;rw[List.map_map] at h1;have h2:(spL s.data.toList).map ((fun b:ByteArray=>b.data.toList)∘mkB)=spL s.data.toList:=by
  conv=>rhs;rw[←List.map_id (spL s.data.toList)]
  exact List.map_congr_left fun a _=>data_mkB a
 rw[h2,List.map_append,List.map_append] at h1;unfold rightL;rw[h1];rcases hb with hb | hb
 ·have:(((pre.map fun b:ByteArray=>b.data.toList)++[x].map fun b:ByteArray=>b.data.toList)++r.map fun b:ByteArray=>b.data.toList).all partL=false:=by
   rw[List.all_eq_false];exact⟨x.data.toList,by simp,by simp [hb]⟩
  rw[this];simp
 ·rw[zD (show ¬_≤12 by simp at hb⊢;omega)];simp
theorem rightL_good {s:ByteArray}{xs:List ByteArray}(h:xs=spS s)(h1:s.size≤200)(h2:headS s≠mkB resL)(h3:∀x∈xs,partL x.data.toList=true)(h4:xs.length≤12):rightL s.data.toList=true:=by
 subst h;unfold spS at h3 h4;rw[zS] at h4;unfold rightL;have hl:s.data.toList.length=s.size:=by simp
 rw[zE (show s.data.toList.length≤200 by omega),zE h4,zE (show(spL s.data.toList).headD []≠resL from fun e=>h2 (by unfold headS;rw[e]))];simp only[Bool.true_and,List.all_eq_true];intro x hx;have:=h3 (mkB x) (List.mem_map_of_mem hx)
 rwa [data_mkB] at this
end Sw
namespace Go.Proofs.YtnpehjgnplaabaaGreatDoor
open Go Go.RowKit Go.Shelf
open Sw
attribute [local go_sem] Oper.semAt_some
theorem res_cell_bool {P:Program}{fn:Func}{p:Tmp}{ty:TypeId}(h:fn.results= #[.cell p ty])(tmps:Array Value)(w:World)(g:Nat)(u:TypeId)(b:Bool)(hp:tmps.getD p undef= .pointer (some ⟨g,0,none⟩))(hg:Blk w g u #[.bool b])(hu:P.underlying ty=some .bool):
  (results fn tmps).run P w= .ok (.bool b) w:=by
 have hp':tmps[p]?.getD undef= .pointer (some ⟨g,0,none⟩):=by simpa using hp
 have c:w.cell? ⟨g,0,none⟩=some (.bool b):=by have:=hg.cell 0;simpa using this
 have l2:(loadVar ty ⟨g,0,none⟩).run P w= .ok (.bool b) w:=by simp [loadVar,isAgg,run_underlying hu,run_load,c]
 simp [results,h,hp',asAddr,l2]
def RtI (s:ByteArray) (T N:Nat) (pre:List (Pc s.size)) (W:World):Prop:=
 (∀x∈pre,partL x.1.data.toList=true)∧pre.length≤12∧Blk W T 4 #[.bool false]∧Blk W N 3 #[.int .i64 (pre.length:Nat)]
def RtX (s:ByteArray) (T:Nat) (c:Code) (pre:List (Pc s.size)) (W:World):Prop:=
 (∃(pre':List (Pc s.size)) (x:Pc s.size),pre=pre'++[x]∧(partL x.1.data.toList=false∨12<pre.length)∧c= .ret)∧Blk W T 4 #[.bool false]
theorem rtI_own {s:ByteArray}{T N B M:Nat}(h1:T≠M)(h2:N≠M):OwnM (fun k=>k=M) B (RtI s T N):=
 fun pre W W' row hs hg hr=>⟨hs.1,hs.2.1,blk_ownM hs.2.2.1 h1 hg hr,blk_ownM hs.2.2.2 h2 hg hr⟩
theorem rtX_own {s:ByteArray}{T B M:Nat}(h1:T≠M)(c:Code):OwnM (fun k=>k=M) B (RtX s T c):=
 fun pre W W' row hs hg hr=>⟨hs.1,blk_ownM hs.2 h1 hg hr⟩
theorem right_any (w:World)(s:ByteArray)(hs:s.size≤1000000):
  Calls Tryz.prog 80 #[.string s] w fun e w'=>e= .returned (.bool (rightL s.data.toList))∧Below w.heap.size w w':=by
 have HC:=zH (fun W=>cut_any W s hs);have HR:=zH reserved_any;have HQ:=zH SplitSeq_any;have HP:=zH part_any;have hres:((headS s).toList==[46,115,119,105,110,103,108,101])=decide (headS s=mkB resL):=by
  rw[str_eq_iff];by_cases h:headS s=mkB resL
  ·rw[zE h,h,data_mkB];rfl
  ·rw[zD h];refine zD fun e=>h ?_
   rw[←mkB_data (headS s),e];rfl
 have hB0:=Blk.new w 4 #[.bool false];have hb0:Below w.heap.size w (w.alloc (.cells #[.bool false] 4)):=(zR _ _).alloc (zN _) _;refine callsIn_wide.1 (?_:CallsIn Fence.wide 9 _ _ _ _ _);refine callsIn_of_wp_marks Tryz.func80 rfl trivial ?_ rfl;simp only[Tryz.ntmps80,List.size_toArray,zI,List.length_nil,Nat.reduceAdd,Nat.reduceSub,Array.replicate_succ,Array.replicate_zero,List.push_toArray,List.append_toArray,List.nil_append,List.cons_append];gi_wp2
 refine⟨trivial,?_⟩;refine(callsIn_wide.2 (HC.out _)).mono ?_;rintro e w1 ⟨⟨r,b,rfl⟩,m,rfl⟩;have hB1:Blk ((w.alloc (.cells #[.bool false] 4)).drewN m) w.heap.size 4 #[.bool false]:=hB0;have hb1:=below_drewN hb0 m;clear hB0 hb0;generalize (w.alloc (.cells #[.bool false] 4)).drewN m=w2 at*;obtain⟨T,hT⟩:∃T,T=w.heap.size:=⟨_,rfl⟩;rw[←hT] at hB1 hb1⊢;have HTE:=zH hT;clear hT;have c0:=hB1.cell 0;have f0:=hB1.frozen 0;simp at c0
 have hlt:=hB1.lt;by_cases hbig:(200:Int)<s.size
 ·have HF:=zH (rightL_long (s:=s) (by omega));gi_wp2
  refine⟨trivial,?_⟩;gi_wp2
  refine⟨_,res_cell_bool rfl _ _ T 4 false rfl (hB1.put 0 (.bool false)) Tryz.underlying4,?_⟩;exact⟨by rw[HF.out],by rw[←HTE.out];exact hb1.setCell (zN _) _⟩
 ·gi_wp2
  refine⟨trivial,?_⟩;refine(callsIn_wide.2 (HR.out _)).mono ?_;rintro e w3 ⟨rfl,rfl⟩;by_cases hre:headS s=mkB resL
  ·have HF:=zH (rightL_res hre);rw[zE hre] at hres;clear hre;gi_wp2
   refine⟨_,res_cell_bool rfl _ _ T 4 false rfl (hB1.put 0 (.bool false)) Tryz.underlying4,?_⟩;exact⟨by rw[HF.out],by rw[←HTE.out];exact hb1.setCell (zN _) _⟩
  ·rw[zD hre] at hres;have HRE:=zH hre;clear hre;have hB2:=hB1.alloc (.cells #[.int .i64 0] 3);have hN2:=Blk.new w2 3 #[.int .i64 0];have hb2:=hb1.alloc (by omega) (.cells #[.int .i64 0] 3);gi_wp2
   refine⟨trivial,?_⟩;refine(callsIn_wide.2 (HQ.out _ _ _)).mono ?_;rintro e w5 ⟨rfl,rfl⟩;obtain⟨w4,hw4⟩:∃w4,w4=w2.alloc (.cells #[.int .i64 0] 3):=⟨_,rfl⟩;obtain⟨N,hN⟩:∃N,N=w2.heap.size:=⟨_,rfl⟩;(have hz4:w4.heap.size=N+1:=by rw[hw4,hN];simp);rw[←hw4] at hB2 hN2 hb2⊢;rw[←hN] at hN2 hlt⊢;clear hw4 hN c0 f0 hB1 hb1;have hS:=(Blk.new w4 9 #[.string s]).alloc (.cells #[.string ⟨#[47]⟩] 9)|>.alloc (.cells #[.int .i64 0] 3);have hP1:=(Blk.new (w4.alloc (.cells #[.string s] 9)) 9 #[.string ⟨#[47]⟩]).alloc (.cells #[.int .i64 0] 3);have hV:=Blk.new ((w4.alloc (.cells #[.string s] 9)).alloc (.cells #[.string ⟨#[47]⟩] 9)) 3 #[.int .i64 0];have hB5:=((hB2.alloc (.cells #[.string s] 9)).alloc (.cells #[.string ⟨#[47]⟩] 9)).alloc (.cells #[.int .i64 0] 3);have hN5:=((hN2.alloc (.cells #[.string s] 9)).alloc (.cells #[.string ⟨#[47]⟩] 9)).alloc (.cells #[.int .i64 0] 3);have hb5:=((hb2.alloc (by omega) (.cells #[.string s] 9)).alloc (by simp;omega) (.cells #[.string ⟨#[47]⟩] 9)).alloc (by simp;omega) (.cells #[.int .i64 0] 3);(have hz5:(((w4.alloc (.cells #[.string s] 9)).alloc (.cells #[.string ⟨#[47]⟩] 9)).alloc (.cells #[.int .i64 0] 3)).heap.size=N+1+1+1+1:=by simp [hz4]);simp only[World.size_alloc,hz4] at hS hP1 hV;clear hB2 hN2 hb2;generalize ((w4.alloc (.cells #[.string s] 9)).alloc (.cells #[.string ⟨#[47]⟩] 9)).alloc (.cells #[.int .i64 0] 3)=w5 at*;rw[hz4];(gi_wp2);refine wpIn_rangeFunc_mine (Mine:=fun k=>k=N+1) (fun r h=>by omega) rfl (by omega) (gf:=190) (lb:= #[.pointer (some ⟨N+1+1,0,none⟩),.pointer (some ⟨N+1,0,none⟩),.pointer (some ⟨N+1+1+1,0,none⟩)]) rfl trivial (enters_of Tryz.func190 (by kernel_rfl) rfl)
    (splitSeq_owns 8 (by omega) (N+1+1) (N+1) (N+1+1+1) s w5 hs hP1 hS hV (by omega)) Kp3.trans (fun W l o o' hl _ _ _=>Kp3.turn (w:=w5) (by omega) (by omega) (by omega) W l o o' hl) (zR _ _) (fun _=>rfl)
    (fun pre W=>RtI s T N pre W∧Below T w W) (fun c pre W=>RtX s T c pre W∧Below T w W)
    (OwnM.and (rtI_own (by omega) (by omega)) (ownM_below (by rw[HTE.out];exact zN _) (by omega) (fun r h=>by omega)))
    (fun c=>OwnM.and (rtX_own (by omega) c) (ownM_below (by rw[HTE.out];exact zN _) (by omega) (fun r h=>by omega)))
    ⟨⟨fun x hx=>(by cases hx),by simp,hB5,hN5⟩,hb5⟩ ?a1 ?assign ?body ?done ?stop
   case assign=>
    intro l x W K hK;(gi_wp2);exact hK
   case body=>
    rintro l pre x W ⟨⟨hall,hln,b0,b1⟩,hB⟩ hlt';have m0:=b1.cell 0;have k0:=b1.frozen 0;(simp at m0);have hxp:=HP.out (W.setCell ⟨N,0,none⟩ (.int .i64 ((pre.length:Nat)+1))) x.1 (by have:=x.2;omega);have b1':=b1.put 0 (.int .i64 ((pre.length:Nat)+1));have b0':=b0.far (p:=⟨N,0,none⟩) (show T≠N by omega) (.int .i64 ((pre.length:Nat)+1));have hB':=hB.setCell (p:=⟨N,0,none⟩) (show T≤N by omega) (.int .i64 ((pre.length:Nat)+1));have n0:=b1'.cell 0;have z0:=b0'.cell 0;have y0:=b0'.frozen 0;(simp at n0 z0);have hkp:Kp3 (N+1+1) (N+1) (N+1+1+1) W (W.setCell ⟨N,0,none⟩ (.int .i64 ((pre.length:Nat)+1))):=⟨by simp [World.setCell],fun k hk=>zJ W _ _ k (by rcases hk with rfl | rfl | rfl<;>simp<;>omega)⟩;have hko:=KeepsOthers.setCell W ⟨N,0,none⟩ (.int .i64 ((pre.length:Nat)+1));have HXP:=zH hxp;clear hxp;have HH:=zH (zA b0' (zA b1' (zA hB' (zA hkp hko))));clear b0 b1 hB b0' b1' hB' hkp hko;(gi_wp2);refine⟨trivial,?_⟩;refine(CallsIn.inRound l (callsIn_wide.2 HXP.out)).mono ?_;rintro e w6 ⟨rfl,rfl⟩;generalize (W.setCell ⟨N,0,none⟩ (.int .i64 ((pre.length:Nat)+1)))=W1 at*;cases hpx:partL x.1.data.toList with
    | false=>
     (gi_wp2);refine⟨HH.out.2.2.2.2.trans (KeepsOthers.setCell _ _ _),⟨⟨pre,x,rfl,.inl hpx,rfl⟩,HH.out.1.put 0 (.bool false)⟩,HH.out.2.2.1.setCell (zN _) _⟩
    | true=>
     by_cases h12:(12:Int)<(pre.length:Nat)+1
     ·(gi_wp2);refine⟨HH.out.2.2.2.2.trans (KeepsOthers.setCell _ _ _),⟨⟨pre,x,rfl,.inr (by simp;omega),rfl⟩,HH.out.1.put 0 (.bool false)⟩,HH.out.2.2.1.setCell (zN _) _⟩
     ·(gi_wp2);refine⟨HH.out.2.2.2.2,HH.out.2.2.2.1,⟨fun y hy=>?_,by simp;omega,HH.out.1,?_⟩,HH.out.2.2.1⟩
      ·rcases List.mem_append.1 hy with h | h
       ·exact hall y h
       ·rw[List.mem_singleton] at h;rw[h];exact hpx
      ·(have e:(((pre++[x]).length:Nat):Int)=(pre.length:Nat)+1:=by simp);rw[e];exact HH.out.2.1
   case done=>
    rintro D ys W hD hS' ⟨⟨hall,hln,b0,b1⟩,hB⟩ hK;(have HF:=zH (rightL_good (s:=s) (xs:=ys.map (·.1)) hS' (by omega) HRE.out (fun x hx=>by obtain⟨y,hy,rfl⟩:=List.mem_map.1 hx;exact hall y hy) (by rw[zS];exact hln)));have z0:=b0.cell 0;have y0:=b0.frozen 0;(simp at z0);have b0':=b0.put 0 (.bool true);have hB':=hB.setCell (p:=⟨T,0,none⟩) (zN T) (.bool true);have hK':=(KeepsOthers.setCell W ⟨T,0,none⟩ (.bool true)).same D _ hK rfl;have HH:=zH (zA b0' (zA hB' hK'));clear b0 b1 hB b0' hB' hK hK';(gi_wp2);generalize (W.setCell ⟨T,0,none⟩ (.bool true))=W1 at*;refine⟨by simp,.inl ⟨_,_,rfl,run_takeDeferred HH.out.2.2,?_⟩⟩;refine⟨_,res_cell_bool rfl _ _ T 4 true rfl (HH.out.1.grown (grownBy_putObj' W1 D (.deferred none)) (fun e=>by cases e;omega)) Tryz.underlying4,by rw[HF.out],?_⟩;have hb:=HH.out.2.1;rw[HTE.out] at hb;exact hb.trans (belowK_b (w:=w) (zN _) W1 D _ _ (by have:=HTE.out;omega) HH.out.2.2 rfl rfl)
   case stop=>
    rintro D c pre W hD hSp ⟨⟨⟨pre',x,rfl,hbad,rfl⟩,b0⟩,hB⟩ hK;obtain⟨r',hr'⟩:=hSp;have HF:=zH (rightL_bad (s:=s) (pre:=pre'.map (·.1)) (x:=x.1) (r:=r') (by rw[hr',List.map_append];rfl) (by
     rcases hbad with h | h
     ·exact .inl h
     ·right;simp at h⊢;exact h))
    clear hr' hbad;(gi_wp2);refine⟨by simp,.inl ⟨_,_,rfl,run_takeDeferred hK,?_⟩⟩;refine⟨_,res_cell_bool rfl _ _ T 4 false rfl (b0.grown (grownBy_putObj' W D (.deferred none)) (fun e=>by cases e;omega)) Tryz.underlying4,by rw[HF.out],?_⟩;rw[HTE.out] at hB;exact hB.trans (belowK_b (w:=w) (zN _) W D _ _ (by have:=HTE.out;omega) hK rfl rfl)
end Go.Proofs.YtnpehjgnplaabaaGreatDoor
namespace Sw
open Go Go.RowKit
theorem spS_data (s:ByteArray):(spS s).map (fun b:ByteArray=>b.data.toList)=spL s.data.toList:=by
 unfold spS;rw[List.map_map]
 conv=>rhs;rw[←List.map_id (spL s.data.toList)]
 exact List.map_congr_left fun a _=>data_mkB a
theorem spS_zero (s:ByteArray)(h:0<(spS s).length):(spS s)[0]=headS s:=by
 have h2:(spS s)[0]? =some (headS s):=by
  unfold spS headS;rw[←spL_head s.data.toList];rfl
 exact(List.getElem?_eq_some_iff.1 h2).2
theorem spL_size:∀(l:List UInt8),∀x∈spL l,x.length≤l.length
 | [],x,h=>by
  rw[spL,List.mem_singleton] at h;rw[h];simp
 | b::l,x,h=>by
  rw[spL] at h;rw[zI];split at h
  ·rcases List.mem_cons.1 h with rfl | h
   ·simp
   ·have:=spL_size l x h;omega
  ·rcases List.mem_cons.1 h with rfl | h
   ·have hm:(spL l).headD []∈spL l:=by
     cases he:spL l with
     | nil=>exact absurd he (spL_ne l)
     | cons a t=>exact List.mem_cons_self
    have:=spL_size l _ hm;rw[zI];omega
   ·have hm:x∈spL l:=by
     rw[←spL_head l];exact List.mem_cons_of_mem _ h
    have:=spL_size l x hm;omega
theorem spS_size (s:ByteArray):∀x∈spS s,x.size≤s.size:=by
 intro x hx;unfold spS at hx;obtain⟨a,ha,rfl⟩:=List.mem_map.1 hx;have:=spL_size s.data.toList a ha;rw[mkB_size];have h:s.data.toList.length=s.size:=by simp
 omega
theorem rightL_many {s:ByteArray}(h:12<(spS s).length):rightL s.data.toList=false:=by
 unfold spS at h;rw[zS] at h;unfold rightL;rw[zD (show ¬(spL s.data.toList).length≤12 by omega)];simp
theorem rightL_badAt {s:ByteArray}{i:Nat}(h:i<(spS s).length)(hb:partL (spS s)[i].data.toList=false):rightL s.data.toList=false:=
 rightL_bad (pre:=(spS s).take i) (x:=(spS s)[i]) (r:=(spS s).drop (i+1)) (by
  rw[zV]
  conv=>lhs;rw[←List.take_append_drop i (spS s),List.drop_eq_getElem_cons h]
  rfl) (.inl hb)
theorem jnL_take_le:∀(l:List (List UInt8)) (i:Nat),(jnL (l.take i)).length≤(jnL l).length
 | [],i=>by simp
 | x::l,0=>by simp [jnL]
 | [x],i+1=>by simp
 | x::y::l,i+1=>by
  have:=jnL_take_le (y::l) i;rw[List.take_succ_cons];by_cases h:(y::l).take i=[]
  ·rw[h,jnL,jnL_cons x _ (by simp)];simp
  ·rw[jnL_cons x _ h,jnL_cons x (y::l) (by simp)];simp only[zF,zI];omega
def dat (b:ByteArray):List UInt8:=b.data.toList
end Sw
namespace Go.Proofs.YtnpehjgnplaabaaGreatDoor
open Go Go.RowKit
open Sw
theorem refRight_any (w:World)(s:ByteArray)(hs:s.size≤100000):
  Calls Tryz.prog 106 #[.string s] w fun e w'=>e= .returned (.bool (rightL s.data.toList))∧Below w.heap.size w w':=by
 have HS:=zH (refSplit_any w s hs);have HP:=zH refPart_any;have hpos:0<(spS s).length:=List.length_pos_iff.2 (spS_ne s);have hz:=spS_zero s hpos;have hres:((headS s).toList==[46,115,119,105,110,103,108,101])=decide (headS s=mkB resL):=by
  rw[str_eq_iff];by_cases h:headS s=mkB resL
  ·rw[zE h,h,data_mkB];rfl
  ·rw[zD h];refine zD fun e=>h ?_
   rw[←mkB_data (headS s),e];rfl
 have hlen:=spS_len s;obtain⟨U,hU⟩:∃U,rightL s.data.toList=U:=⟨_,rfl⟩;have hLong:=fun(h:(200:Int)<s.size)=>rightL_long (s:=s) (by omega)
 have hMany:=fun(h:12<(spS s).length)=>rightL_many h
 have hRes:=fun(h:headS s=mkB resL)=>rightL_res h
 have hBad:=fun(i:Nat) (h:i<(spS s).length) (hb:partL (spS s)[i].data.toList=false)=>rightL_badAt h hb
 have hGood:=fun(h1:s.size≤200) (h2:headS s≠mkB resL) (h3:∀x∈spS s,partL x.data.toList=true) (h4:(spS s).length≤12)=>rightL_good rfl h1 h2 h3 h4
 have hsz:∀x∈spS s,x.size≤100000:=fun x hx=>by
  have:=spS_size s x hx;omega
 rw[hU] at hLong hMany hRes hBad hGood⊢;clear hU;generalize spS s=L at*;have HX:=zH (zA hMany (zA hBad (zA hGood hsz)));clear hMany hBad hGood hsz;have HLO:=zH hLong;clear hLong;have HRE:=zH hRes;clear hRes;go_enter Tryz.func106,Tryz.ntmps106
 go_wp2_with fail
 refine HS.out.mono ?_;rintro e w1 ⟨v,rfl,hown,hb1⟩;obtain⟨A,c,rfl,hc,hm,hsl⟩:=SlV.of_own hown bE_len (by omega);unfold maxLen at hm;obtain⟨b,off,rfl,hbb,hcs⟩:=hsl hpos;have hc0:=hcs 0 hpos 0 (by omega);rw[hz] at hc0;simp [bE] at hc0
 have HCS:=zH hcs;clear hcs;clear hz hown hsl HS;obtain⟨N,hN⟩:∃N,L.length=N:=⟨_,rfl⟩;have HN:=zH hN;rw[hN] at hc hpos hlen⊢;clear hN;by_cases h1:(200:Int)<s.size
 ·have HF:=zH (HLO.out h1);go_wp2_with fail
  go_ret;exact⟨by rw[HF.out];first | done | rfl,hb1⟩
 by_cases h2:(12:Int)<N
 ·have HF:=zH (HX.out.1 (by have:=HN.out;omega));go_wp2_with fail
  go_ret;exact⟨by rw[HF.out];first | done | rfl,hb1⟩
 by_cases h3:headS s=mkB resL
 ·have HF:=zH (HRE.out h3);rw[zE h3] at hres;clear h3;have hp0:(0:Int)<N:=by omega
  go_wp2_with fail
  go_ret;exact⟨by rw[HF.out];first | done | rfl,hb1⟩
 rw[zD h3] at hres;have H3:=zH h3;clear h3 HRE HLO;have hp0:(0:Int)<N:=by omega
 go_wp2_with fail
 go_loopw [2,5,24] (fun r _ iv wr=>∃i:Nat,i≤N∧r= .bool false∧iv= .int .i64 i∧(∀j (h:j<L.length),j<i→partL L[j].data.toList=true)∧w1=wr) (fun _ _ iv _=>N-(intOf iv).toNat)
 case atStart=>exact⟨0,Nat.zero_le _,rfl,rfl,fun j h h'=>by omega,rfl⟩
 case round=>
  obtain⟨i,hi,rfl,rfl,hall,rfl⟩:=hrel;by_cases hlt:i<N
  ·have hiL:i<L.length:=by have:=HN.out;omega
   have hci:=HCS.out i hiL 0 (by omega);have hsi:=HX.out.2.2.2 L[i] (zP hiL);have hPi:=HP.out w1 L[i] (by omega);have hbad:=HX.out.2.1 i hiL;(simp [bE] at hci);have HST:=zH (fun(hp:partL L[i].data.toList=true) j (h:j<L.length) (hj:j<i+1)=>show partL L[j].data.toList=true by
    by_cases hji:j=i
    ·subst hji;exact hp
    ·exact hall j h (by omega))
   (have hi1:(i:Int)<N:=by omega);clear hall;generalize partL L[i].data.toList=P at*;have HPI:=zH hPi;clear hPi;have HB:=zH hbad;clear hbad;generalize L[i]=X at*;cases P with
   | false=>
    have HF:=zH (HB.out rfl);(go_wp2_with fail);refine HPI.out.mono ?_;rintro e w2 ⟨rfl,rfl⟩;(go_wp2_with fail);go_ret;exact⟨by rw[HF.out];first | done | rfl,hb1⟩
   | true=>
    have HF:=zH (HST.out rfl);(go_wp2_with fail);refine HPI.out.mono ?_;rintro e w2 ⟨rfl,rfl⟩;(go_wp2_with fail);go_roundw
    case rel=>exact⟨i+1,by omega,rfl,by go_num,HF.out,by simp⟩
    case measure=>simp [intOf];omega
  ·obtain rfl:i=N:=by omega
   have HF:=zH (HX.out.2.2.1 (by omega) H3.out (fun x hx=>by
    obtain⟨j,hj,rfl⟩:=List.getElem_of_mem hx;exact hall j hj (by have:=HN.out;omega)) (by have:=HN.out;omega))
   clear hall hlt;(go_wp2_with fail);go_ret;exact⟨by rw[HF.out];first | done | rfl,hb1⟩
end Go.Proofs.YtnpehjgnplaabaaGreatDoor
namespace Sw
open Go Go.RowKit
def datL (l:List ByteArray):List (List UInt8):=l.map dat
theorem jn_zero (l:List ByteArray)(h:0<l.length):(⟨#[]⟩:ByteArray)++l[0]=mkB (jnL (datL (l.take 1))):=by
 cases l with
 | nil=>exact absurd h (by simp)
 | cons x l=>
  have e:jnL (datL ((x::l).take 1))=x.data.toList:=rfl;rw[e,mkB_data];apply ByteArray.ext;simp
theorem jn_step (l:List ByteArray)(i:Nat)(h0:0<i)(h:i<l.length):(mkB (jnL (datL (l.take i)))++(⟨#[47]⟩:ByteArray))++l[i]=mkB (jnL (datL (l.take (i+1)))):=by
 have e:jnL (datL (l.take (i+1)))=jnL (datL (l.take i))++47::l[i].data.toList:=by
  unfold datL;rw[zG h,List.map_append,List.map_singleton,jnL_snoc _ _ (by
   intro e;have:=congrArg List.length e;rw[zS,zL,List.length_nil] at this;omega)]
  rfl
 rw[e];apply ByteArray.ext;simp [mkB,ByteArray.data_append]
theorem own_base {w:World}{base base':Nat}{e:TypeId}{size n:Nat}{v:Value}{xs:List Value}(h:w.ownsRow base e size v n xs)(hb:base'≤base):w.ownsRow base' e size v n xs:=by
 refine⟨h.1,?_⟩;rcases h.2 with h2 | ⟨g,cap,cur,rfl,h3,h4⟩
 ·exact .inl h2
 ·exact .inr ⟨g,cap,cur,rfl,zT hb h3,h4⟩
end Sw
namespace Go.Proofs.YtnpehjgnplaabaaGreatDoor
open Go Go.RowKit
open Sw
theorem refJoin_any (w:World)(A:Option Addr)(n c:Nat)(l:List ByteArray)(hl:l.length=n)(hn:n≤maxLen)(hsl:SlOf w 1 bE A l)(htot:(jnL (datL l)).length≤1000000):
  Calls Tryz.prog 152 #[.slice A n c] w fun e w'=>e= .returned (.string (mkB (jnL (datL l))))∧w=w':=by
 unfold maxLen at hn;have hall:∀i,(mkB (jnL (datL (l.take i)))).size≤1000000:=fun i=>by
  rw[mkB_size];have:=jnL_take_le (datL l) i;unfold datL at this htot⊢;rw[←List.map_take] at this;omega
 have HALL:=zH hall;clear hall;have HS:=zH hsl;clear hsl;have HL:=zH hl;clear hl;go_enter Tryz.func152,Tryz.ntmps152
 go_wp2_with fail
 go_loopw [3,4,5,8] (fun p _ _ iv wr=>∃i:Nat,i≤n∧iv= .int .i64 i∧p= .string (mkB (jnL (datL (l.take i))))∧w=wr) (fun _ _ _ iv _=>n-(intOf iv).toNat)
 case atStart=>exact⟨0,Nat.zero_le _,rfl,rfl,rfl⟩
 case round=>
  obtain⟨i,hi,rfl,rfl,rfl⟩:=hrel;by_cases hlt:i<n
  ·have hiL:i<l.length:=by have:=HL.out;omega
   obtain⟨b,off,rfl,hbb,hcs⟩:=HS.out (by omega);have hci:=hcs i hiL 0 (by omega);(simp [bE] at hci);have hs1:=HALL.out (i+1);have hs0:=HALL.out i;(have hi1:(i:Int)<n:=by omega);clear hcs;by_cases h0:i=0
   ·subst h0;rw[Nat.add_zero] at hci;have hz:=jn_zero l hiL;(have hsz:((⟨#[]⟩:ByteArray)++l[0]).size≤1000000:=by rw[hz];exact hs1);rw[ByteArray.size_append] at hsz;have e0:mkB (jnL (datL (l.take 0)))=⟨#[]⟩:=rfl;have HZ:=zH hz;clear hz;rw[e0];clear e0 hs1 hs0;generalize l[0]=X at*;(go_wp2_with fail);go_roundw
    case rel=>exact⟨1,by omega,rfl,by rw[←HZ.out];first | done | rfl,by simp⟩
    case measure=>simp [intOf];omega
   ·have hz:=jn_step l i (by omega) hiL;(have hsz:((mkB (jnL (datL (l.take i)))++(⟨#[47]⟩:ByteArray))++l[i]).size≤1000000:=by rw[hz];exact hs1);rw[ByteArray.size_append,ByteArray.size_append,show(⟨#[47]⟩:ByteArray).size=1 from rfl] at hsz;have HZ:=zH hz;clear hz;(have hp0:(0:Int)<i:=by omega);(have hsz2:(mkB (jnL (datL (l.take i)))++(⟨#[47]⟩:ByteArray)).size=(mkB (jnL (datL (l.take i)))).size+1:=by rw[ByteArray.size_append];rfl);clear hs1;generalize l[i]=X at*;generalize mkB (jnL (datL (l.take i)))=P at*;(go_wp2_with fail);go_roundw
    case rel=>exact⟨i+1,by omega,by go_num,by rw[HZ.out],by simp⟩
    case measure=>simp [intOf];omega
  ·obtain rfl:i=n:=by omega
   have ht:l.take i=l:=zO (by have:=HL.out;omega);rw[ht];clear ht hlt;(go_wp2_with fail);go_ret;exact⟨rfl,rfl⟩
def partsS (s:ByteArray):List ByteArray:=if rightL s.data.toList=true then spS s else []
theorem refParts_any (w:World)(s:ByteArray)(hs:s.size≤100000):
  Calls Tryz.prog 151 #[.string s] w (StrPost (partsS s) w):=by
 have HR:=zH (refRight_any w s hs);have HS:=zH (fun W=>refSplit_any W s hs);have hp:partsS s=if rightL s.data.toList=true then spS s else []:=rfl
 have HF:=zH (fun v l w1 w' (hb1:Below w.heap.size w w1) (hl:l=partsS s) (h:w'.ownsRow w1.heap.size 9 1 v l.length (l.flatMap bE)) (hb:Below w1.heap.size w1 w')=>(show StrPost (partsS s) w (.returned v) w' from⟨v,rfl,by rw[←hl];exact own_base h hb1.size,hb1.trans (hb.mono hb1.size)⟩));generalize rightL s.data.toList=U at*;cases U with
 | false=>
  have HP:=zH (show partsS s=[] by rw[hp,if_neg (by simp)]);clear hp;go_enter Tryz.func151,Tryz.ntmps151
  go_wp2_with fail
  refine HR.out.mono ?_;rintro e w1 ⟨rfl,hb1⟩;have HFIN:=zH (HF.out (.slice none 0 0) [] w1 w1 hb1 HP.out.symm ⟨rfl,.inl ⟨rfl,rfl⟩⟩ (zR _ _));go_wp2_with fail
  go_ret;exact HFIN.out
 | true=>
  have HP:=zH (show partsS s=spS s by rw[hp,if_pos rfl]);clear hp;go_enter Tryz.func151,Tryz.ntmps151
  go_wp2_with fail
  refine HR.out.mono ?_;rintro e w1 ⟨rfl,hb1⟩;go_wp2_with fail
  refine(HS.out w1).mono ?_;rintro e w2 ⟨v,rfl,h1,h2⟩;have HFIN:=zH (HF.out v (spS s) w1 w2 hb1 HP.out.symm h1 h2);clear h1 h2;go_wp2_with fail
  go_ret;exact HFIN.out
end Go.Proofs.YtnpehjgnplaabaaGreatDoor
namespace Sw
open Go Go.RowKit
theorem spL_count:∀l:List UInt8,(spL l).length=l.count 47+1
 | []=>rfl
 | b::l=>by
  have ih:=spL_count l;rw[spL];split
  ·rename_i h
   rw[h,List.count_cons_self,zI,ih]
  ·rename_i h
   rw[List.count_cons_of_ne h,←ih];have h2:(spL l).tail.length+1=(spL l).length:=congrArg List.length (spL_head l);exact h2
theorem splitB_spS:∀(k:Nat) (s:ByteArray),(spS s).length≤k+1→Lib.splitB ⟨#[47]⟩ 0 k s=spS s
 | k,s,h=>by
  have hix:Lib.indexB s ⟨#[47]⟩=Lib.indexByte s.data.toList 47:=Lib.index_one _ _;have hge:=Lib.indexByte_ge s.data.toList 47;obtain⟨j,hj⟩:∃j,Lib.indexByte s.data.toList 47=j:=⟨_,rfl⟩;by_cases h0:j<0
  ·have hm:Lib.indexByte s.data.toList 47= -1:=by omega
   rw[Lib.splitB_miss _ _ _ _ (by rw[hix,hm]),spS_miss hm]
  ·obtain⟨i,rfl⟩:=Int.eq_ofNat_of_zero_le (show 0≤j by omega);obtain⟨hiX,hhit⟩:=spS_hit hj;rw[hhit,zI] at h;have hp:0<(spS (s.extract (i+1) s.size)).length:=List.length_pos_iff.2 (spS_ne _);cases k with
   | zero=>omega
   | succ k=>
    rw[Lib.splitB_hit _ _ _ _ i (by rw[hix,hj]),splitB_spS k _ (by
     have e:(⟨#[47]⟩:ByteArray).size=1:=rfl;rw[e];omega),hhit]
    rfl
theorem spS_count (s:ByteArray):Lib.countB s ⟨#[47]⟩+1=(spS s).length:=by
 have h:Lib.countB s ⟨#[47]⟩=s.data.toList.count 47:=Lib.count_one _ _;unfold spS;rw[h,zS,spL_count]
end Sw
namespace Go.Proofs.YtnpehjgnplaabaaGreatDoor
open Go Go.RowKit
open Sw
theorem split_one (w:World)(s:ByteArray)(hs:s.size≤100000):
  Calls Tryz.prog 116 #[.string s,.string ⟨#[47]⟩] w fun e w'=>e= .returned (.slice (some ⟨w.heap.size,0,none⟩) (spS s).length (spS s).length)∧w'=w.alloc (.cells ((spS s).map Value.string).toArray 9):=by
 have hc:=spS_count s;have hsp:=splitB_spS (Lib.countB s ⟨#[47]⟩) s (by omega);have hle:=spS_len s;have c:=Any.strings_genSplit_core {Tryz.lays146 with} (by kernel_rfl) s ⟨#[47]⟩ 0 (-1) ((spS s).length) w (by omega) (by decide) (Nat.zero_le _)
  (fun x cc hx=>(Tryz.strings_Index_one x 47 _).mono fun e w' h=>⟨by rw[h.1];exact congrArg (fun z=>Ending.returned (Value.int .i64 z)) (Lib.index_one _ _).symm,h.2⟩)
  ((Tryz.strings_Count_one s 47 w).mono fun e w' h=>⟨by rw[h.1];exact congrArg (fun z:Nat=>Ending.returned (Value.int .i64 (z:Int))) (Lib.count_one _ _).symm,h.2⟩)
  (by decide) (by decide) (by rw[if_pos (by decide)];omega)
 rw[show(spS s).length-1=Lib.countB s ⟨#[47]⟩ by omega,hsp,Lib.cellsOf_full] at c;have HC:=zH c;clear c hc hsp;go_enter Tryz.func116,Tryz.ntmps116
 go_wp2_with fail
 refine HC.out.mono ?_;rintro e w' ⟨rfl,rfl⟩;go_wp2_with fail
 go_ret;exact⟨rfl,rfl⟩
end Go.Proofs.YtnpehjgnplaabaaGreatDoor
namespace Sw
open Go Go.RowKit
end Sw
namespace Go.Proofs.YtnpehjgnplaabaaGreatDoor
open Go Go.RowKit
open Sw
end Go.Proofs.YtnpehjgnplaabaaGreatDoor
namespace Sw
open Go Go.RowKit
def wt (l:List ByteArray):Nat:=(l.map fun x=>x.size+1).sum
theorem wt_cons (x:ByteArray)(l:List ByteArray):wt (x::l)=x.size+1+wt l:=by simp [wt]
theorem spL_wt:∀l:List UInt8,((spL l).map fun x=>x.length+1).sum=l.length+1
 | []=>rfl
 | b::l=>by
  have ih:=spL_wt l;rw[spL];split
  ·rw[List.map_cons,List.sum_cons,ih,zI,List.length_nil];omega
  ·rw[←spL_head l,List.map_cons,List.sum_cons] at ih;rw[List.map_cons,List.sum_cons,zI,zI];omega
theorem spS_wt (s:ByteArray):wt (spS s)=s.size+1:=by
 unfold wt spS;rw[List.map_map];have h:(spL s.data.toList).map ((fun x:ByteArray=>x.size+1)∘mkB)=(spL s.data.toList).map fun x=>x.length+1:=List.map_congr_left fun a _=>by
  show(mkB a).size+1=a.length+1
  rw[mkB_size]
 rw[h,spL_wt];simp
theorem wt_jn:∀l:List ByteArray,(jnL (datL l)).length≤wt l
 | []=>by simp [datL,jnL,wt]
 | [x]=>by
  have h:x.data.toList.length=x.size:=by simp
  show x.data.toList.length≤_
  rw[wt_cons];omega
 | x::y::l=>by
  have ih:=wt_jn (y::l);have h:x.data.toList.length=x.size:=by simp
  have e:jnL (datL (x::y::l))=x.data.toList++47::jnL (datL (y::l)):=jnL_cons _ _ (by simp [datL]);rw[e,wt_cons,zF,zI];omega
theorem wt_len:∀l:List ByteArray,l.length≤wt l
 | []=>by simp [wt]
 | x::l=>by
  have:=wt_len l;rw[wt_cons,zI];omega
end Sw
namespace Go.Proofs.YtnpehjgnplaabaaGreatDoor
open Go Go.RowKit Go.Shelf
open Sw
attribute [local go_sem] Oper.semAt_some
theorem str_empty (x:ByteArray):x.toList.isEmpty=decide (x=⟨#[]⟩):=by
 rw[ByteArray.toList_eq];by_cases h:x=⟨#[]⟩
 ·subst h;rfl
 ·rw[zD h];cases hd:x.data.toList with
  | nil=>exact absurd (by rw[←mkB_data x,hd];rfl) h
  | cons a t=>rfl
end Go.Proofs.YtnpehjgnplaabaaGreatDoor
namespace Sw
open Go Go.RowKit
theorem rightL_nil:rightL []=false:=by decide
end Sw
namespace Go.Proofs.YtnpehjgnplaabaaGreatDoor
open Go Go.RowKit
open Sw
end Go.Proofs.YtnpehjgnplaabaaGreatDoor
namespace Sw
open Go Go.RowKit
theorem rightL_parts {p:List UInt8}(h:rightL p=true):∀x∈spL p,partL x=true:=by
 unfold rightL at h;rw[Bool.and_eq_true] at h;exact fun x hx=>List.all_eq_true.1 h.2 x hx
theorem jn_spS (s:ByteArray):jnL (datL (spS s))=s.data.toList:=by
 have:datL (spS s)=spL s.data.toList:=spS_data s;rw[this,jnL_spL]
end Sw
namespace Go.Proofs.YtnpehjgnplaabaaGreatDoor
open Go Go.ChangeShapes Go.WideShapes Go.ChangeAt Go.RowKit
open Go.ChangeMaps (open_string shut_string)
open Sw
end Go.Proofs.YtnpehjgnplaabaaGreatDoor
namespace Sw
open Go Go.RowKit
open Go.Proofs.YtnpehjgnplaabaaGreatDoor (partsS)
theorem spL_last:∀(a r:List UInt8),(47:UInt8)∉r→spL (a++47::r)=spL a++[r]
 | [],r,h=>by rw[List.nil_append,spL_slash,spL_none r h];rfl
 | b::a,r,h=>by
  have ih:=spL_last a r h;rw[List.cons_append,spL,ih,spL];split
  ·rfl
  ·cases hs:spL a with
   | nil=>exact absurd hs (spL_ne a)
   | cons x t=>rfl
def parentS (s:ByteArray):ByteArray:=mkB (jnL (datL (partsS s).dropLast))
def baseS (s:ByteArray):ByteArray:=(partsS s).getLastD ⟨#[]⟩
def upsS (s:ByteArray):List ByteArray:=(List.range ((partsS s).length-1)).map fun k=>mkB (jnL (datL ((partsS s).take (k+1))))
theorem partsS_right {s:ByteArray}(h:rightL s.data.toList=true):partsS s=spS s:=by
 unfold partsS;rw[if_pos h]
theorem partsS_not {s:ByteArray}(h:rightL s.data.toList=false):partsS s=[]:=by
 unfold partsS;rw[if_neg (by rw[h];simp)]
theorem parent_not {s:ByteArray}(h:rightL s.data.toList=false):parentS s=⟨#[]⟩∧baseS s=⟨#[]⟩:=by
 unfold parentS baseS;rw[partsS_not h];exact⟨rfl,rfl⟩
theorem last_hit {s:ByteArray}{i:Nat}(hi:i<s.size)(h1:((s.data[i]!).toNat:Int)=47)(h2:∀j,i<j→j<s.size→((s.data[j]!).toNat:Int)≠47):spS s=spS (s.extract 0 i)++[s.extract (i+1) s.size]:=by
 have hl:s.data.toList.length=s.size:=by simp
 have hget:∀j (h:j<s.size),s.data[j]! =s.data.toList[j]'(by omega):=fun j h=>by
  rw[getElem!_pos s.data j h];simp
 have hno:(47:UInt8)∉s.data.toList.drop (i+1):=by
  intro hm;obtain⟨k,hk,hke⟩:=List.getElem_of_mem hm;rw[List.length_drop] at hk;rw[List.getElem_drop] at hke;refine h2 (i+1+k) (by omega) (by omega) ?_;rw[hget _ (by omega),hke];rfl
 have he:s.data.toList[i]'(by omega)=47:=by
  rw[hget i hi] at h1;have h47:(s.data.toList[i]'(by omega)).toNat=47:=by omega
  exact UInt8.toNat_inj.1 (h47.trans rfl)
 unfold spS;have hd:s.data.toList=s.data.toList.take i++47::s.data.toList.drop (i+1):=by
  conv=>lhs;rw[←List.take_append_drop i s.data.toList]
  rw[List.drop_eq_getElem_cons (by omega),he]
 conv=>lhs;rw[hd]
 rw[spL_last _ _ hno,List.map_append,List.map_singleton,ext_take];congr 1
 rw[←ext_drop,mkB_data]
theorem last_miss {s:ByteArray}(h:∀j,j<s.size→((s.data[j]!).toNat:Int)≠47):spS s=[s]:=by
 have hl:s.data.toList.length=s.size:=by simp
 have hno:(47:UInt8)∉s.data.toList:=by
  intro hm;obtain⟨k,hk,hke⟩:=List.getElem_of_mem hm;refine h k (by omega) ?_;rw[getElem!_pos s.data k (by show k<s.size;omega)];have:s.data[k]'(by show k<s.size;omega)=s.data.toList[k]'hk:=by simp
  rw[this,hke];rfl
 unfold spS;rw[spL_none _ hno,List.map_singleton,mkB_data]
theorem rightL_len {p:List UInt8}(h:rightL p=true):p.length≤200∧(spL p).length≤12∧(spL p).headD []≠resL:=by
 unfold rightL at h;simp only[Bool.and_eq_true,decide_eq_true_eq] at h;exact⟨h.1.1.1,h.1.1.2,h.1.2⟩
theorem right_take {s:ByteArray}(h:rightL s.data.toList=true)(k:Nat)(hk:1≤k):rightL (jnL (datL ((spS s).take k)))=true∧spS (mkB (jnL (datL ((spS s).take k))))=(spS s).take k:=by
 have hp:=rightL_parts h;obtain⟨h1,h2,h3⟩:=rightL_len h;have hd:datL ((spS s).take k)=(spL s.data.toList).take k:=by
  unfold datL;rw[List.map_take];congr 1
  exact spS_data s
 have hne:(spL s.data.toList).take k≠[]:=by
  intro e;have:=congrArg List.length e;rw[zL,List.length_nil] at this;have hpos:=List.length_pos_iff.2 (spL_ne s.data.toList);omega
 have hsp:spL (jnL ((spL s.data.toList).take k))=(spL s.data.toList).take k:=spL_jnL _ hne (fun x hx=>spL_no _ x (List.mem_of_mem_take hx));rw[hd];constructor
 ·unfold rightL;rw[hsp];have hl:(jnL ((spL s.data.toList).take k)).length≤200:=by
   have:=jnL_take_le (spL s.data.toList) k;rw[jnL_spL] at this;omega
  have hh:((spL s.data.toList).take k).headD []=(spL s.data.toList).headD []:=by
   obtain⟨k',rfl⟩:∃k',k=k'+1:=⟨k-1,by omega⟩;cases spL s.data.toList<;>rfl
  rw[zE hl,zE (show((spL s.data.toList).take k).length≤12 by rw[zL];omega),hh,zE h3];simp only[Bool.true_and,List.all_eq_true];exact fun x hx=>hp x (List.mem_of_mem_take hx)
 ·unfold spS;rw[data_mkB,hsp,←List.map_take]
def pAt (U:List ByteArray) (k:Nat):ByteArray:=if h:0<k∧k≤U.length then U[k-1]'(by omega) else⟨#[]⟩
theorem upsS_len (s:ByteArray):(upsS s).length=(partsS s).length-1:=by
 unfold upsS;rw[zS,List.length_range]
theorem upsS_at (s:ByteArray)(k:Nat)(h:k<(upsS s).length):(upsS s)[k]=mkB (jnL (datL ((partsS s).take (k+1)))):=by
 have hl:=upsS_len s;have h2:(upsS s)[k]? =some (mkB (jnL (datL ((partsS s).take (k+1))))):=by
  unfold upsS;rw[List.getElem?_map,List.getElem?_range (by omega)];rfl
 exact(List.getElem?_eq_some_iff.1 h2).2
theorem ups_pAt (s:ByteArray)(k:Nat)(h:k≤(upsS s).length):pAt (upsS s) k=mkB (jnL (datL ((partsS s).take k))):=by
 unfold pAt;by_cases h0:0<k
 ·rw[dif_pos ⟨h0,h⟩,upsS_at,show k-1+1=k by omega]
 ·rw[dif_neg (by omega),show k=0 by omega];rfl
theorem ups_start (s:ByteArray):parentS s=pAt (upsS s) (upsS s).length:=by
 rw[ups_pAt s _ (zN _),upsS_len];unfold parentS;rw[List.dropLast_eq_take]
theorem ups_step (s:ByteArray)(k:Nat)(h:k<(upsS s).length):parentS (upsS s)[k]=pAt (upsS s) k∧(upsS s)[k].size≤200∧rightL (upsS s)[k].data.toList=true:=by
 have hlen:=upsS_len s;have hr:rightL s.data.toList=true:=by
  cases hr:rightL s.data.toList with
  | true=>rfl
  | false=>rw[partsS_not hr,List.length_nil] at hlen;omega
 have hps:=partsS_right hr;obtain⟨h1,h2⟩:=right_take hr (k+1) (by omega);rw[ups_pAt s k (by omega),upsS_at,hps];rw[hps] at hlen;have hq:partsS (mkB (jnL (datL ((spS s).take (k+1)))))=(spS s).take (k+1):=by
  rw[partsS_right (by rw[data_mkB];exact h1),h2]
 refine⟨?_,?_,by rw[data_mkB];exact h1⟩
 ·unfold parentS;rw[hq,List.dropLast_eq_take,List.take_take,zL];congr 4
  omega
 ·rw[mkB_size];exact(rightL_len h1).1
theorem pAt_succ (U:List ByteArray)(k:Nat)(h:k<U.length):pAt U (k+1)=U[k]:=by
 unfold pAt;rw[dif_pos ⟨by omega,by omega⟩];rfl
theorem right_pos {s:ByteArray}(h:rightL s.data.toList=true):0<s.size:=by
 by_cases h0:s.size=0
 ·have:s.data.toList=[]:=List.length_eq_zero_iff.1 (by simpa using h0);rw[this,rightL_nil] at h;cases h
 ·omega
end Sw
namespace Sw
open Go Go.RowKit
open Go.Proofs.YtnpehjgnplaabaaGreatDoor (partsS)
open Go.Lib (compareBytes)
theorem u8_tri (a b:UInt8)(h1:¬a<b)(h2:¬b<a):a=b:=UInt8.le_antisymm (UInt8.not_lt.1 h2) (UInt8.not_lt.1 h1)
theorem cb_refl:∀a:List UInt8,compareBytes a a=0
 | []=>rfl
 | x::a=>by rw[compareBytes,if_neg (UInt8.lt_irrefl x),if_neg (UInt8.lt_irrefl x),cb_refl a]
theorem cb_neg:∀a b:List UInt8,compareBytes b a= -compareBytes a b
 | [],[]=>rfl
 | [],_::_=>rfl
 | _::_,[]=>rfl
 | x::a,y::b=>by
  rw[compareBytes,compareBytes];by_cases h1:x<y
  ·rw[if_pos h1,if_neg (UInt8.lt_asymm h1),if_pos h1];rfl
  ·by_cases h2:y<x
   ·rw[if_pos h2,if_neg h1,if_pos h2]
   ·rw[if_neg h2,if_neg h1,if_neg h1,if_neg h2,cb_neg a b]
theorem cb_three:∀a b:List UInt8,compareBytes a b= -1∨compareBytes a b=0∨compareBytes a b=1
 | [],[]=> .inr (.inl rfl)
 | [],_::_=> .inl rfl
 | _::_,[]=> .inr (.inr rfl)
 | x::a,y::b=>by
  rw[compareBytes];split
  ·exact .inl rfl
  ·split
   ·exact .inr (.inr rfl)
   ·exact cb_three a b
theorem cb_zero:∀a b:List UInt8,compareBytes a b=0→a=b
 | [],[],_=>rfl
 | [],_::_,h=>by simp [compareBytes] at h
 | _::_,[],h=>by simp [compareBytes] at h
 | x::a,y::b,h=>by
  rw[compareBytes] at h;split at h
  ·cases h
  ·rename_i h1
   split at h
   ·cases h
   ·rename_i h2
    rw[u8_tri x y h1 h2,cb_zero a b h]
theorem cb_zero_iff (a b:List UInt8):compareBytes a b=0↔a=b:=⟨cb_zero a b,fun h=>by subst h;exact cb_refl a⟩
theorem less_cb:∀a b:List UInt8,Op.bytesLess a b=decide (compareBytes a b= -1)
 | [],[]=>rfl
 | [],_::_=>rfl
 | _::_,[]=>rfl
 | x::a,y::b=>by
  rw[Op.bytesLess,compareBytes,less_cb a b];by_cases h1:x<y
  ·rw[if_pos h1,zE h1];rfl
  ·by_cases h2:y<x
   ·have hne:(x==y)=false:=by
     rw[zB];intro e;subst e;exact UInt8.lt_irrefl _ h2
    rw[if_neg h1,if_pos h2,zD h1,hne];rfl
   ·have:=u8_tri x y h1 h2;subst this;rw[if_neg h1,if_neg h1,zD h1,beq_self_eq_true];simp
def cL:List ByteArray→List ByteArray→Int
 | [],[]=>0
 | [],_::_=> -1
 | _::_,[]=>1
 | x::a,y::b=>if compareBytes x.data.toList y.data.toList=0 then cL a b else compareBytes x.data.toList y.data.toList
theorem cL_refl:∀a:List ByteArray,cL a a=0
 | []=>rfl
 | x::a=>by rw[cL,if_pos (cb_refl _),cL_refl a]
theorem cL_neg:∀a b:List ByteArray,cL b a= -cL a b
 | [],[]=>rfl
 | [],_::_=>rfl
 | _::_,[]=>rfl
 | x::a,y::b=>by
  rw[cL,cL,cb_neg x.data.toList y.data.toList,cL_neg a b];by_cases h:compareBytes x.data.toList y.data.toList=0
  ·rw[if_pos (by omega),if_pos h]
  ·rw[if_neg (by omega),if_neg h]
theorem cL_three:∀a b:List ByteArray,cL a b= -1∨cL a b=0∨cL a b=1
 | [],[]=> .inr (.inl rfl)
 | [],_::_=> .inl rfl
 | _::_,[]=> .inr (.inr rfl)
 | x::a,y::b=>by
  rw[cL];split
  ·exact cL_three a b
  ·exact cb_three _ _
theorem dat_inj {x y:ByteArray}(h:x.data.toList=y.data.toList):x=y:=by
 cases x;cases y
 congr 1
 exact Array.toList_inj.1 h
theorem cL_zero:∀a b:List ByteArray,cL a b=0→a=b
 | [],[],_=>rfl
 | [],_::_,h=>by simp [cL] at h
 | _::_,[],h=>by simp [cL] at h
 | x::a,y::b,h=>by
  rw[cL] at h;split at h
  ·rename_i h1
   rw[dat_inj (cb_zero _ _ h1),cL_zero a b h]
  ·rename_i h1
   exact absurd h h1
theorem cL_take:∀(l:List ByteArray) (k:Nat),k<l.length→cL (l.take k) l= -1
 | [],k,h=>absurd h (by simp)
 | x::l,0,_=>rfl
 | x::l,k+1,h=>by
  rw[List.take_succ_cons,cL,if_pos (cb_refl _)];exact cL_take l k (by simpa using h)
theorem cL_between:∀(x y r:List ByteArray),cL x y= -1→cL y (x++r)= -1→∃k,k<y.length∧y.take k=x
 | [],[],r,h,_=>by simp [cL] at h
 | [],b::y,r,_,_=>⟨0,by simp,rfl⟩
 | a::x,[],r,h,_=>by simp [cL] at h
 | a::x,b::y,r,h1,h2=>by
  rw[List.cons_append,cL] at h2;rw[cL] at h1;rw[cb_neg a.data.toList b.data.toList] at h2;by_cases h:compareBytes a.data.toList b.data.toList=0
  ·rw[if_pos h] at h1;rw[if_pos (by omega)] at h2;obtain⟨k,hk,ht⟩:=cL_between x y r h1 h2;refine⟨k+1,by simpa using hk,?_⟩;rw[List.take_succ_cons,ht,dat_inj (cb_zero _ _ h)]
  ·rw[if_neg h] at h1;rw[if_neg (by omega)] at h2;omega
theorem cL_same:∀(k:Nat) (a b:List ByteArray),a.take k=b.take k→cL a b=cL (a.drop k) (b.drop k)
 | 0,_,_,_=>rfl
 | k+1,[],b,h=>by
  rw[List.take_nil] at h;cases b with
  | nil=>rfl
  | cons y b=>cases h
 | k+1,x::a,[],h=>by cases h
 | k+1,x::a,y::b,h=>by
  rw[List.take_succ_cons,List.take_succ_cons] at h;injection h with h1 h2;subst h1;rw[cL,if_pos (cb_refl _),List.drop_succ_cons,List.drop_succ_cons];exact cL_same k a b h2
theorem cL_at (k:Nat)(a b:List ByteArray)(ht:a.take k=b.take k)(ha:k<a.length)(hb:k<b.length):cL a b=if compareBytes a[k].data.toList b[k].data.toList=0 then cL (a.drop (k+1)) (b.drop (k+1)) else compareBytes a[k].data.toList b[k].data.toList:=by
 rw[cL_same k a b ht,List.drop_eq_getElem_cons ha,List.drop_eq_getElem_cons hb,cL]
theorem cL_out (k:Nat)(a b:List ByteArray)(ht:a.take k=b.take k)(ha:a.length=k):cL a b=if a.length<b.length then-1 else 0:=by
 rw[cL_same k a b ht,List.drop_eq_nil_of_le (by omega)];cases hd:b.drop k with
 | nil=>
  have:b.length-k=0:=by rw[←List.length_drop,hd];rfl
  rw[if_neg (by omega)];rfl
 | cons y t=>
  have:b.length-k=t.length+1:=by rw[←List.length_drop,hd];rfl
  rw[if_pos (by omega)];rfl
theorem cL_out2 (k:Nat)(a b:List ByteArray)(ht:a.take k=b.take k)(hb:b.length=k)(ha:k<a.length):cL a b=1:=by
 have hd:b.drop k=[]:=List.drop_eq_nil_of_le (by omega);rw[cL_same k a b ht,hd,List.drop_eq_getElem_cons ha];rfl
def ordS (p q:ByteArray):Int:=if(partsS p).length=0∧(partsS q).length=0 then compareBytes p.data.toList q.data.toList else cL (partsS p) (partsS q)
theorem ordS_neg (p q:ByteArray):ordS q p= -ordS p q:=by
 unfold ordS;by_cases h:(partsS p).length=0∧(partsS q).length=0
 ·rw[if_pos h,if_pos ⟨h.2,h.1⟩,cb_neg]
 ·rw[if_neg h,if_neg (fun e=>h ⟨e.2,e.1⟩),cL_neg]
theorem ordS_three (p q:ByteArray):ordS p q= -1∨ordS p q=0∨ordS p q=1:=by
 unfold ordS;split
 ·exact cb_three _ _
 ·exact cL_three _ _
theorem parts_inj {p q:ByteArray}(h:partsS p=partsS q)(h0:(partsS p).length≠0):p=q:=by
 have hr:∀s:ByteArray,(partsS s).length≠0→rightL s.data.toList=true:=fun s hs=>by
  cases hr:rightL s.data.toList with
  | true=>rfl
  | false=>rw[partsS_not hr] at hs;exact absurd rfl hs
 have hp:=partsS_right (hr p h0);have hq:=partsS_right (hr q (by rw[←h];exact h0));rw[hp,hq] at h;apply dat_inj;rw[←jn_spS p,←jn_spS q,h]
theorem ordS_zero {p q:ByteArray}(h:ordS p q=0):p=q:=by
 unfold ordS at h;split at h
 ·exact dat_inj (cb_zero _ _ h)
 ·rename_i h1
  have h2:=cL_zero _ _ h;exact parts_inj h2 (fun e=>h1 ⟨e,by rw[←h2];exact e⟩)
theorem ordS_refl (p:ByteArray):ordS p p=0:=by
 unfold ordS;split
 ·exact cb_refl _
 ·exact cL_refl _
theorem ups_mem {s u:ByteArray}(h:u∈upsS s):∃k,1≤k∧k<(partsS s).length∧partsS u=(partsS s).take k∧rightL u.data.toList=true:=by
 obtain⟨k,hk,rfl⟩:=List.getElem_of_mem h;have hlen:=upsS_len s;have hst:=ups_step s k hk;have hr:rightL s.data.toList=true:=by
  cases hr:rightL s.data.toList with
  | true=>rfl
  | false=>rw[partsS_not hr,List.length_nil] at hlen;omega
 refine⟨k+1,by omega,by omega,?_,hst.2.2⟩;rw[partsS_right hst.2.2,upsS_at,partsS_right hr];exact(right_take hr (k+1) (by omega)).2
theorem ups_of {s u:ByteArray}{k:Nat}(h1:1≤k)(h2:k<(partsS s).length)(h3:partsS u=(partsS s).take k):u∈upsS s:=by
 have hlen:=upsS_len s;have hk:k-1<(upsS s).length:=by omega
 have hu:=upsS_at s (k-1) hk;have hm:(upsS s)[k-1]∈upsS s:=zP hk;obtain⟨_,_,_,_,h5⟩:=ups_mem hm;have hr:rightL s.data.toList=true:=by
  cases hr:rightL s.data.toList with
  | true=>rfl
  | false=>rw[partsS_not hr,List.length_nil] at hlen;omega
 have hp:partsS (upsS s)[k-1]=(partsS s).take k:=by
  rw[partsS_right h5,hu,partsS_right hr,show k-1+1=k by omega];exact(right_take hr k h1).2
 have:(upsS s)[k-1]=u:=parts_inj (by rw[hp,h3]) (by rw[hp,zL];omega);rw[←this];exact hm
theorem ups_order {p u:ByteArray}(h:u∈upsS p):ordS u p= -1:=by
 obtain⟨k,h1,h2,h3,_⟩:=ups_mem h;unfold ordS;rw[if_neg (by omega),h3];exact cL_take _ _ h2
theorem between {p q s:ByteArray}(h:p∈upsS q)(hr:rightL s.data.toList=true)(h1:ordS p s= -1)(h2:ordS s q= -1):p∈upsS s:=by
 obtain⟨k,hk1,hk2,h3,_⟩:=ups_mem h;have hs0:0<(partsS s).length:=by
  rw[partsS_right hr];exact List.length_pos_iff.2 (spS_ne s)
 have hp0:(partsS p).length=k:=by rw[h3,zL];omega
 unfold ordS at h1 h2;rw[if_neg (by omega)] at h1 h2;obtain⟨j,hj,hje⟩:=cL_between (partsS p) (partsS s) ((partsS q).drop k) h1 (by rw[h3,List.take_append_drop];exact h2);have hjk:j=k:=by
  rw[←hp0,←hje,zL];omega
 subst hjk;exact ups_of hk1 hj hje.symm
end Sw
namespace Go.Proofs.YtnpehjgnplaabaaGreatDoor
open Go Go.RowKit
open Sw
def SlPost (l:List ByteArray) (w:World) (e:Ending) (w':World):Prop:=∃v,e= .returned v∧SlV w' 1 bE v l∧Below w.heap.size w w'
theorem flat_bE (l:List ByteArray):l.flatMap bE=l.map Value.string:=by
 induction l with
 | nil=>rfl
 | cons a l ih=>rw[List.flatMap_cons,ih];rfl
theorem parts_any (w:World)(s:ByteArray)(hs:s.size≤100000):
  Calls Tryz.prog 77 #[.string s] w (SlPost (partsS s) w):=by
 have HR:=zH (right_any w s (by omega));have HS:=zH (fun W=>split_one W s hs);have hlen:=spS_len s;have hp:=partsS_right (s:=s);have hn:=partsS_not (s:=s);have hF1:=fun(w1 w2:World) (hb1:Below w.heap.size w w1) (h:w2=w1.alloc (.cells ((spS s).map Value.string).toArray 9))=>(show SlV w2 1 bE (.slice (some ⟨w1.heap.size,0,none⟩) (spS s).length (spS s).length) (spS s)∧Below w.heap.size w w2 from by
  subst h;have hB:=Blk.new w1 9 ((spS s).map Value.string).toArray;refine⟨⟨_,_,rfl,zN _,by unfold maxLen;omega,fun _=>⟨w1.heap.size,0,rfl,hB.lt,fun i hi j hj=>?_⟩⟩,hb1.alloc hb1.size _⟩;have hj0:j=0:=by omega
  subst hj0;rw[hB.cell];simp [bE,zM hi])
 generalize rightL s.data.toList=U at*;cases U with
 | false=>
  have HF:=zH (fun(w1:World) (hb1:Below w.heap.size w w1)=>(show SlPost (partsS s) w (.returned (.slice none 0 0)) w1 from⟨_,rfl,by rw[hn rfl];exact⟨none,0,rfl,zN _,by unfold maxLen;omega,SlOf.nil _ _ _ _⟩,hb1⟩));clear hp hn hF1;go_enter Tryz.func77,Tryz.ntmps77
  go_wp2_with fail
  refine HR.out.mono ?_;rintro e w1 ⟨rfl,hb1⟩;have HG:=zH (HF.out w1 hb1);go_wp2_with fail
  go_ret;exact HG.out
 | true=>
  have HF:=zH (fun(w1 w2:World) (hb1:Below w.heap.size w w1) (h:w2=w1.alloc (.cells ((spS s).map Value.string).toArray 9))=>(show SlPost (partsS s) w (.returned (.slice (some ⟨w1.heap.size,0,none⟩) (spS s).length (spS s).length)) w2 from⟨_,rfl,by rw[hp rfl];exact(hF1 w1 w2 hb1 h).1,(hF1 w1 w2 hb1 h).2⟩));clear hp hn hF1;go_enter Tryz.func77,Tryz.ntmps77
  go_wp2_with fail
  refine HR.out.mono ?_;rintro e w1 ⟨rfl,hb1⟩;go_wp2_with fail
  refine(HS.out w1).mono ?_;rintro e w2 ⟨rfl,hw2⟩;have HG:=zH (HF.out w1 w2 hb1 hw2);clear hw2;go_wp2_with fail
  go_ret;exact HG.out
theorem last_47 (w:World)(s:ByteArray)(hs:s.size≤1000000):
  Calls Tryz.prog 166 #[.string s,.string ⟨#[47]⟩] w fun e w'=>e= .returned (.int .i64 (Lib.lastIndexByte s 47))∧w'=w:=
 Tryz.strings_LastIndex_one s ⟨#[47]⟩ rfl (by omega) w
theorem parent_any (w:World)(s:ByteArray)(hs:s.size≤100000):
  Calls Tryz.prog 125 #[.string s] w fun e w'=>e= .returned (.string (parentS s))∧Below w.heap.size w w':=by
 have HR:=zH (right_any w s (by omega));have HL:=zH (last_47 w s (by omega));rcases Lib.lastIndexByte_spec s 47 with ⟨hi,hno⟩ | ⟨i,hlt,hi,h1,h2⟩
 ·have hp:parentS s=⟨#[]⟩:=by
   cases hr:rightL s.data.toList with
   | false=>exact(parent_not hr).1
   | true=>
    unfold parentS;rw[partsS_right hr,last_miss hno];rfl
  rw[hi] at HL;have HP:=zH hp;clear hp hno hi;go_enter Tryz.func125,Tryz.ntmps125
  go_wp2_with fail
  refine HL.out.mono ?_;rintro e w1 ⟨rfl,rfl⟩;go_wp2_with fail
  go_ret;exact⟨by rw[HP.out];first | done | rfl,zR _ _⟩
 ·have hsp:=last_hit hlt h1 h2;rw[hi] at HL;cases hr:rightL s.data.toList with
  | false=>
   rw[hr] at HR;have HP:=zH (parent_not hr).1;clear hsp h1 h2 hi hr;(go_enter Tryz.func125,Tryz.ntmps125);(go_wp2_with fail);refine HL.out.mono ?_;rintro e w1 ⟨rfl,rfl⟩;(go_wp2_with fail);refine HR.out.mono ?_;rintro e w2 ⟨rfl,hb2⟩;(go_wp2_with fail);go_ret;exact⟨by rw[HP.out];first | done | rfl,hb2⟩
  | true=>
   rw[hr] at HR;have HP:=zH (show parentS s=s.extract 0 i by
    unfold parentS;rw[partsS_right hr,hsp,List.dropLast_concat,jn_spS,mkB_data])
   (have hiI:(i:Int)≤s.size:=by omega);clear hsp h1 h2 hi hr;(go_enter Tryz.func125,Tryz.ntmps125);(go_wp2_with fail);refine HL.out.mono ?_;rintro e w1 ⟨rfl,rfl⟩;(go_wp2_with fail);refine HR.out.mono ?_;rintro e w2 ⟨rfl,hb2⟩;(go_wp2_with fail);go_ret;exact⟨by rw[HP.out];first | done | rfl,hb2⟩
end Go.Proofs.YtnpehjgnplaabaaGreatDoor
namespace Sw
open Go Go.RowKit
def slLen:Value→Nat
 | .slice _ n _=>n
 | _=>0
theorem own_slLen {w:World}{base:Nat}{e:TypeId}{size n:Nat}{v:Value}{xs:List Value}(h:w.ownsRow base e size v n xs):slLen v=n:=by
 rcases h.2 with ⟨rfl,h0⟩ | ⟨g,cap,cur,rfl,_⟩
 ·exact h0.symm
 ·rfl
end Sw
namespace Go.Proofs.YtnpehjgnplaabaaGreatDoor
open Go Go.RowKit
open Sw
theorem rev_nil (w:World)(A:Option Addr)(c:Nat):
  Calls Tryz.prog 174 #[.slice A 0 c] w fun e w'=>e= .returned (.tuple #[])∧w=w':=by
 go_enter Tryz.func174,Tryz.ntmps174
 go_wp2_with fail
 go_loopw [2,3] (fun i j wr=>i= .int .i64 0∧j= .int .i64 (-1)∧w=wr) (fun _ _ _=>0)
 case atStart=>exact⟨rfl,rfl,rfl⟩
 case round=>
  obtain⟨rfl,rfl,rfl⟩:=hrel;go_wp2_with fail
  go_end0
  exact⟨rfl,rfl⟩
theorem rev_own (w:World)(base:Nat)(v:Value)(l:List ByteArray)(hown:w.ownsRow base 9 1 v l.length (l.flatMap bE))(hl:l.length≤100000):
  Calls Tryz.prog 174 #[v] w fun e w'=>e= .returned (.tuple #[])∧SlV w' 1 bE v l.reverse∧Below base w w':=by
 by_cases h0:l.length=0
 ·have hl0:l=[]:=List.length_eq_zero_iff.1 h0;obtain⟨A,c,rfl,hc,hm,hsl⟩:=SlV.of_own hown bE_len (by omega);subst hl0;exact(rev_nil w A c).mono fun e w' h=>⟨h.1,⟨A,c,rfl,Nat.zero_le _,hm,SlOf.nil _ _ _ _⟩,by rw[←h.2];exact zR _ _⟩
 ·rcases hown.2 with ⟨_,h⟩ | ⟨g,cap,cur,rfl,hb,hh,hc,hm,hsz,hx⟩
  ·omega
  ·have hcell:∀i,i<l.length→w.cell? ⟨g,0+i,none⟩=some (.string (l.getD i ByteArray.empty)):=fun i hi=>by
    have:=hown.cells (g:=g) rfl i (.string l[i]) (by rw[flat_bE];simp [zM hi]);rw[add_mk] at this;rw[this,List.getD_eq_getElem?_getD,zM hi];rfl
   have hfr:∀i,i<l.length→w.frozen? ⟨g,0+i,none⟩=false:=fun i hi=>by
    have hB:Blk w g 9 cur:=hh;exact hB.frozen (0+i)
   refine(Tryz.slices_Reverse_string_cells g 0 l.length cap (fun i=>l.getD i ByteArray.empty) w (by omega) hcell hfr).mono ?_;rintro e w' ⟨rfl,q,rfl⟩;have hstr:(Lib.strsOf (fun i=>l.getD i ByteArray.empty) l.length).reverse.map Go.Proofs.encStr=l.reverse.map Value.string:=by
    have h1:Lib.strsOf (fun i=>l.getD i ByteArray.empty) l.length=l.map fun b=>b.data.toList:=by
     unfold Lib.strsOf;apply List.ext_getElem
     ·simp
     ·intro i h1 h2;(have hi:i<l.length:=by simpa using h2);simp [List.getD_eq_getElem?_getD,zM hi]
    rw[h1,←List.map_reverse,List.map_map];exact List.map_congr_left fun a _=>congrArg Value.string (mkB_data a)
   rw[hstr];have hlt:g<w.heap.size:=(Array.getElem?_eq_some_iff.1 hh).1;refine⟨rfl,⟨some ⟨g,0,none⟩,cap,by simp,by simpa using hc,hm,fun hn=>⟨g,0,rfl,?_,fun i hi j hj=>?_⟩⟩,?_⟩
   ·have:=(Go.Lib.below_setCells_w (B:=base) hb (l.reverse.map Value.string) 0 (w.drewN q)).size;exact zQ hlt this
   ·(have hj0:j=0:=by omega);subst hj0;have hin:=World.cell?_setCells_in g (l.reverse.map Value.string) 0 (w.drewN q) (fun j hj=>by
     (have hj':j<l.length:=by simpa using hj);have:=hcell j hj';(show((w.drewN q).cell? ⟨g,0+j,none⟩).isSome=true);rw[show(w.drewN q).cell? ⟨g,0+j,none⟩=w.cell? ⟨g,0+j,none⟩ from rfl,this];rfl) i (by simpa using hi)
    rw[Nat.mul_one,Nat.add_zero,hin];simp [bE]
   ·have h1:=Go.Lib.below_setCells_w (B:=base) hb (l.reverse.map Value.string) 0 (w.drewN q);exact below_of_drewN h1
theorem ups_any (w:World)(s:ByteArray)(hs:s.size≤90000):
  Calls Tryz.prog 139 #[.string s] w (SlPost (upsS s) w):=by
 have HP0:=zH (parent_any w s (by omega));rw[ups_start] at HP0;have hstep:=ups_step s;have hlenU:(upsS s).length≤90001:=by
  have h1:=upsS_len s;have h2:(partsS s).length≤s.size+1:=by
   unfold partsS;split
   ·exact spS_len s
   ·simp
  omega
 generalize upsS s=U at*;have HST:=zH hstep;clear hstep;have HF:=zH (fun v w' (h:SlV w' 1 bE v U) (hb:Below w.heap.size w w')=>(show SlPost U w (.returned v) w' from⟨v,rfl,h,hb⟩));have hp0:pAt U 0=⟨#[]⟩:=by unfold pAt;rw[dif_neg (by omega)]
 have HP1:=zH hp0;clear hp0;go_enter Tryz.func139,Tryz.ntmps139
 go_wp2_with fail
 refine HP0.out.mono ?_;rintro e w1 ⟨rfl,hb1⟩;go_wp2_with fail
 go_loopw [0,2] (fun p o wr=>∃k,k≤U.length∧p= .string (pAt U k)∧wr.ownsRow w.heap.size 9 1 o (U.length-k) ((U.drop k).reverse.flatMap bE)∧Below w.heap.size w wr) (fun _ o _=>U.length-slLen o)
 case atStart=>exact⟨U.length,zN _,rfl,by rw[Nat.sub_self,List.drop_length];exact⟨rfl,.inl ⟨rfl,rfl⟩⟩,hb1⟩
 case round=>
  obtain⟨k,hk,rfl,hown,hbr⟩:=hrel;cases k with
  | zero=>
   rw[HP1.out];rw[List.drop_zero,Nat.sub_zero] at hown;have hrev:=rev_own wr w.heap.size u2 U.reverse (by rw[List.length_reverse];exact hown) (by rw[List.length_reverse];omega);rw[List.reverse_reverse] at hrev;have HREV:=zH hrev;clear hrev hown;(have he:(⟨#[]⟩:ByteArray).toList.isEmpty=true:=by rw[str_empty];exact zE rfl);(go_wp2_with fail);refine HREV.out.mono ?_;rintro e w5 ⟨rfl,hsl,hb5⟩;have HG:=zH (HF.out _ w5 hsl (hbr.trans hb5));clear hsl;(go_wp2_with fail);go_ret;exact HG.out
  | succ k=>
   (have hkl:k<U.length:=by omega);obtain⟨h1,h2,h3⟩:=HST.out k hkl;have hpos:=right_pos h3;(have hPar:=fun W=>parent_any W U[k] (by omega));rw[h1] at hPar;have hne:U[k].toList.isEmpty=false:=by
    rw[str_empty];(refine zD fun e=>?_);rw[e] at hpos;exact absurd hpos (by decide)
   have hdr:(U.drop k).reverse.flatMap bE=(U.drop (k+1)).reverse.flatMap bE++[.string U[k]]:=by
    rw[List.drop_eq_getElem_cons hkl,List.reverse_cons,flat_snoc]
   (have hlen:U.length-k=U.length-(k+1)+1:=by omega);have hsl:=own_slLen hown;rw[pAt_succ U k hkl];have HPAR:=zH hPar;clear hPar h1 h2 h3 hpos;have HDR:=zH (zA hdr hlen);clear hdr hlen;generalize U[k]=X at*;(have hl6:U.length-(k+1)+1≤1000000:=by omega);have HO:=zH hown;clear hown;obtain⟨m,hm⟩:∃m,m=U.length-(k+1):=⟨_,rfl⟩;rw[←hm] at HO HDR hl6 hsl;have HM:=zH hm;clear hm;(go_wp2_with (refine wpList_app rfl _ _ 34 rfl w.heap.size 9 _ _ _ Tryz.underlying34 info_str rfl (by omega) u2 m ((U.drop (k+1)).reverse.flatMap bE) (by simp [Act.eval,Act.put]) (own_kept HO.out ((zR _ _).alloc (zN _) _)) wr.heap.size 1 _ _ (by simp [Act.eval,Act.put]) (Blk.new _ _ _) rfl (by simp [Value.oneCell']) hl6 (by omega) (by have:=hbr.size;simp;omega) _ rfl ?_;intro g2 cap2 w5 ho2 hg2 hat2 hlt2));have hw5:Below w.heap.size w w5:=own_below HO.out (hbr.alloc hbr.size _) hg2 (zN _) (by have:=hbr.size;simp;omega);refine(HPAR.out _).mono ?_;rintro e w6 ⟨rfl,hb6⟩;have ho6:=own_kept ho2 hb6;(go_wp2_with fail);go_roundw
   case rel=>exact⟨k,by omega,rfl,by rw[HDR.out.1,HDR.out.2];exact ho6,hw5.trans (hb6.mono hw5.size)⟩
   case measure=>have:=HM.out;rw[hsl];simp [slLen];omega
theorem partsS_wt (s:ByteArray):wt (partsS s)≤s.size+1:=by
 unfold partsS;split
 ·rw[spS_wt];omega
 ·exact Nat.zero_le _
theorem wt_take (l:List ByteArray):∀k,wt (l.take k)≤wt l:=by
 induction l with
 | nil=>intro k;simp
 | cons x l ih=>
  intro k;cases k with
  | zero=>simp [wt]
  | succ k=>rw[List.take_succ_cons,wt_cons,wt_cons];have:=ih k;omega
theorem refUps_any (w:World)(s:ByteArray)(hs:s.size≤90000):
  Calls Tryz.prog 112 #[.string s] w (SlPost (upsS s) w):=by
 have HP:=zH (refParts_any w s (by omega));have hwt:=partsS_wt s;have hwl:=wt_len (partsS s);have hUl:=upsS_len s;have hUa:=upsS_at s;generalize upsS s=U at*;generalize partsS s=L at*;have HUA:=zH hUa;clear hUa;have HF:=zH (fun v w' (h:SlV w' 1 bE v U) (hb:Below w.heap.size w w')=>(show SlPost U w (.returned v) w' from⟨v,rfl,h,hb⟩));go_enter Tryz.func112,Tryz.ntmps112
 go_wp2_with fail
 refine HP.out.mono ?_;rintro e w1 ⟨v,rfl,hown,hb1⟩;obtain⟨A,c,rfl,hc,hm,hsl⟩:=SlV.of_own hown bE_len (by omega);unfold maxLen at hm;obtain⟨N,hN⟩:∃N,L.length=N:=⟨_,rfl⟩;have HN:=zH hN;rw[hN] at hc hwl hUl⊢;clear hN hown;have HSL:=zH hsl;clear hsl;have HUL:=zH hUl;clear hUl;go_wp2_with fail
 go_loopw [3,5] (fun o iv wr=>∃n:Nat,1≤n∧n≤max 1 N∧iv= .int .i64 n∧wr.ownsRow w1.heap.size 9 1 o (n-1) ((U.take (n-1)).flatMap bE)∧Below w1.heap.size w1 wr) (fun _ iv _=>N-(intOf iv).toNat)
 case atStart=>exact⟨1,zN _,by omega,rfl,⟨rfl,.inl ⟨rfl,rfl⟩⟩,zR _ _⟩
 case round=>
  obtain⟨n,hn1,hnN,rfl,hown,hbr⟩:=hrel;by_cases hlt:n<N
  ·obtain⟨k,rfl⟩:∃k,n=k+1:=⟨n-1,by omega⟩;have hkU:k<U.length:=by have:=HUL.out;omega
   have hj:=refJoin_any wr A (k+1) c (L.take (k+1)) (by rw[zL];have:=HN.out;omega) (by unfold maxLen;omega) ((HSL.out.below hbr (zN _)).take (k+1)) (by have h1:=wt_jn (L.take (k+1));have h2:=wt_take L (k+1);omega);rw[←HUA.out k hkU] at hj;have hdr:(U.take (k+1)).flatMap bE=(U.take k).flatMap bE++[.string U[k]]:=by
    rw[zG hkU,flat_snoc]
   have HDR:=zH hdr;clear hdr;have HJ:=zH hj;clear hj;rw[Nat.add_sub_cancel] at hown;generalize U[k]=X at*;(obtain⟨hl6,hkI,hkc⟩:k+1≤1000000∧(k:Int)+1<N∧(k:Int)+1≤c:=by omega);have HO:=zH hown;clear hown;(go_wp2_with fail);refine HJ.out.mono ?_;rintro e w2 ⟨rfl,rfl⟩;(go_wp2_with (refine wpList_app rfl _ _ 34 rfl w1.heap.size 9 _ _ _ Tryz.underlying34 info_str rfl (by omega) u3 k ((U.take k).flatMap bE) (by simp [Act.eval,Act.put]) (own_kept HO.out ((zR _ _).alloc (zN _) _)) wr.heap.size 1 _ _ (by simp [Act.eval,Act.put]) (Blk.new _ _ _) rfl (by simp [Value.oneCell']) hl6 (by omega) (by have:=hbr.size;simp;omega) _ rfl ?_;intro g2 cap2 w5 ho2 hg2 hat2 hlt2));have hw5:Below w1.heap.size w1 w5:=own_below HO.out (hbr.alloc hbr.size _) hg2 (zN _) (by have:=hbr.size;simp;omega);go_roundw
   case rel=>exact⟨k+1+1,by omega,by omega,by go_num,by rw[Nat.add_sub_cancel,HDR.out];exact ho2,hw5⟩
   case measure=>simp [intOf];omega
  ·have hU:U.take (n-1)=U:=zO (by have:=HUL.out;omega);rw[hU] at hown;have hsl:=SlV.of_own hown bE_len (by omega);have HG:=zH (HF.out _ wr hsl (hb1.trans (hbr.mono hb1.size)));have hltI:¬(n:Int)<N:=by omega
   clear hsl hown hU;(go_wp2_with fail);go_ret;exact HG.out
end Go.Proofs.YtnpehjgnplaabaaGreatDoor
