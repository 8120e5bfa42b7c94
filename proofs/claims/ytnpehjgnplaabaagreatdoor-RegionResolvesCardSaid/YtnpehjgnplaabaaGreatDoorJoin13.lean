/- Several texts of ours, joined. -/
import Derived.Test.YtnpehjgnplaabaaGreatDoorJoin1
import Derived.Test.YtnpehjgnplaabaaGreatDoorJoin9
import Derived.Test.YtnpehjgnplaabaaGreatDoorJoin12
import Derived.Test.YtnpehjgnplaabaaGreatDoorJoin5
import Derived.Test.YtnpehjgnplaabaaGreatDoorJoin8
import Derived.Test.YtnpehjgnplaabaaGreatDoorJoin6
import Derived.Test.YtnpehjgnplaabaaGreatDoorJoin11
import Derived.Test.YtnpehjgnplaabaaGreatDoorJoin3
import Derived.Test.YtnpehjgnplaabaaGreatDoorJoin2
set_option linter.unusedVariables false
set_option linter.unusedSimpArgs false
set_option maxRecDepth 100000
set_option maxHeartbeats 64000000
namespace Go.Proofs.YtnpehjgnplaabaaGreatDoor
open Go Go.RowKit
open Sw
theorem flat_one_len (f:NP→Nd):∀l:List NP,(l.flatMap fun n=>oneN n.path (f n)).length≤l.length
 | []=>zN _
 | n::l=>by
  rw[List.flatMap_cons,zF,zI];have h1:=flat_one_len f l;have h2:(oneN n.path (f n)).length≤1:=by unfold oneN;split<;>simp
  omega
theorem regTree0_any (B0:Nat)(w:World)(gs bt bt2 m0 m1 mc N:Nat)(policy:Int)(pv gv:Value)(l:List NP)(gr:List ByteArray)
  (h:RgAt B0 w gs bt bt2 m0 m1 mc N policy pv gv l gr) (hl:l.length≤400) (hz:∀n∈l,n.path.size≤90000∧NdIn (NP.left n)) (hr:Rise (l.map NP.path)) (hti:TI (l.flatMap fun n=>oneN n.path (NP.left n))):
  Calls Tryz.prog 29 #[.pointer (some ⟨gs,0,none⟩),.int .i64 0] w fun e w'=>∃bt' bm',e= .returned (.tuple #[.pointer (some ⟨bt',0,none⟩),.int .i64 0])∧TreeAt w' bt' bm' (l.flatMap fun n=>oneN n.path (NP.left n))∧Below w.heap.size w w':=by
 have hn:(l.map NP.path).length=l.length:=zS _;have hrp:=(h:RgIn _ _ _ _ _ _ _ _ _ _ _ _ _ _ _ _ _).rp;rw[←flat_sE] at hrp;have hsv:=SlV.of_own hrp sE_lenP (by decide);have hb:=(h:RgIn _ _ _ _ _ _ _ _ _ _ _ _ _ _ _ _ _).box;have hm:=(h:RgIn _ _ _ _ _ _ _ _ _ _ _ _ _ _ _ _ _).mA;have z3:=hb.cell 3;simp only[qA,qB,qC] at z3;have H0:=zH (zA hb (zA hm hsv));have HZ:=zH (zA hz (zA hr hti));obtain⟨A,c,rfl,hc1,hc2,-⟩:=hsv;unfold maxLen at hc2;rw[hn] at hc1 z3 H0;obtain⟨n,hnl⟩:∃n,l.length=n:=⟨_,rfl⟩;have HN:=zH (zA hn hnl);rw[hnl] at hc1 z3 H0 hl;clear h hrp hb hm hn hnl hz hr hti;go_enter Tryz.func29,Tryz.ntmps29
 go_wp2_with fail
 go_loopw [6,17] (fun ov iv wr=>∃i:Nat,i≤n∧iv= .int .i64 i∧OwnIt wr w.heap.size ov ((l.take i).flatMap fun n=>oneN n.path (NP.left n))∧Below w.heap.size w wr) (fun _ iv=>fun _=>n-(intOf iv).toNat)
 case atStart=>exact⟨0,Nat.zero_le _,rfl,World.ownsRow_nil _ _ _ _,zR _ _⟩
 case round=>
  obtain⟨i,hi,rfl,hO,hbr⟩:=hrel;by_cases hlt:i<n
  ·have hiL:i<l.length:=by have:=HN.out.2;omega
   (have hiM:i<(l.map NP.path).length:=by rw[zS];exact hiL);obtain⟨A',c',hA,_,_,hso⟩:=H0.out.2.2.below hbr (zN _);rw[HN.out.1,HN.out.2] at hA;(obtain⟨rfl,rfl⟩:A=A'∧c=c':=by injection hA with e1 e2 e3;exact⟨e1,e3⟩);clear hA;obtain⟨b,off,rfl,hbb,hcs⟩:=hso (by omega);have c0:=hcs i hiM 0 (by omega);simp only[sE,List.getElem_map,qC,Nat.add_zero,Nat.mul_one] at c0;clear hcs hso;(have hi1:(i:Int)<n:=by omega);have hfl:(l.take (i+1)).flatMap (fun n=>oneN n.path (NP.left n))=(l.take i).flatMap (fun n=>oneN n.path (NP.left n))++oneN l[i].path (NP.left l[i]):=by
    rw[zG hiL,List.flatMap_append];simp
   have hnd:=ndAt_mem NP.left HZ.out.2.1 (zP hiL);have hzi:=HZ.out.1 _ (zP hiL);obtain⟨x,hx⟩:∃x,l[i]=x:=⟨_,rfl⟩;simp only[hx] at c0 hfl hnd hzi;clear hx;obtain⟨q,hq⟩:∃q,x.path=q:=⟨_,rfl⟩;obtain⟨nd,hndq⟩:∃nd,NP.left x=nd:=⟨_,rfl⟩;rw[hq,hndq] at hfl hzi;rw[hq] at c0 hnd;rw[hndq] at hnd;have hqk:okT q:=zT hzi.1 (by unfold maxLen;omega);have hbx:=H0.out.1.below hbr H0.out.1.lt;have hmx:=H0.out.2.1.below hbr H0.out.2.1.lt;have z4:=hbx.cell 4;simp only[qA,qB,qC] at z4;have hlk:=hmx.look (keyStr Tryz.underlying9) Tryz.underlying73 (zeroNd wr) hqk;rw[lkN_getD,hnd] at hlk;have HI:=zH (regItems_any wr q nd);(have h1len:(oneN q nd).length≤1:=by unfold oneN;split<;>simp);have hol:((l.take i).flatMap fun n=>oneN n.path (NP.left n)).length≤400:=zT (flat_one_len NP.left (l.take i)) (by rw[zL];omega);obtain⟨LT,hLT⟩:∃L,((l.take i).flatMap fun n=>oneN n.path (NP.left n))=L:=⟨_,rfl⟩;rw[hLT] at hO hfl hol;obtain⟨kl,hkl⟩:∃k,LT.length=k:=⟨_,rfl⟩;unfold OwnIt at hO;rw[hkl] at hO hol;obtain⟨A6,c6,rfl,-,-,-⟩:=SlV_of_any hO;have HO:=zH (zA hO (zA hbr (zA hfl (zA h1len (zA hol hkl)))));obtain⟨ka,kb,kc,kd⟩:=nd;simp only[Nd.c] at hlk HI;clear hO hbr hfl hnd hzi hbx hmx hq hndq h1len hol hLT hkl;(go_wp2_with fail);refine HI.out.mono ?_;rintro e w2 ⟨r,rfl,hr2,hb2⟩;have h2:=own_kept HO.out.1 hb2;have hr2l:=hr2.slv;obtain⟨A7,c7,rfl,-,-,-⟩:=SlV_of_any hr2;have H2:=zH (zA h2 (zA hr2l (HO.out.2.1.trans (hb2.mono HO.out.2.1.size))));clear hr2 hr2l hb2 h2 HI hlk z4 c0;(go_wp2_with (at_builtin;refine wpList_app_slv rfl _ _ 25 rfl w.heap.size 59 _ _ _ Tryz.underlying25 infoIt rfl (by decide) _ kl (LT.flatMap eCSN) rfl H2.out.1 eCSN eCSN_len eCSN_one _ (oneN q ⟨ka,kb,kc,kd⟩) rfl H2.out.2.1 (by have:=HO.out.2.2.2.1;have:=HO.out.2.2.2.2.1;omega) (by decide) H2.out.2.2.size ?_;intro v5 w5 ho5 hg5));have hbb5:=H2.out.2.2.grown hg5 H2.out.2.2.size (fun k hk=>(H2.out.1.lt k hk).1);have ho5':OwnIt w5 w.heap.size v5 ((l.take (i+1)).flatMap fun n=>oneN n.path (NP.left n)):=by
    rw[HO.out.2.2.1];unfold OwnIt;rw[zF,List.flatMap_append,HO.out.2.2.2.2.2];exact ho5
   have H5:=zH (zA ho5' hbb5);clear ho5 hg5 hbb5 ho5';(go_wp2_with fail);go_roundw
   case rel=>exact⟨i+1,by omega,by go_num,H5.out.1,H5.out.2⟩
   case measure=>simp [intOf];omega
  ·obtain rfl:i=n:=by omega
   rw[zO (by have:=HN.out.2;omega)] at hO;have hol:(l.flatMap fun n=>oneN n.path (NP.left n)).length≤400:=zT (flat_one_len NP.left l) (by have:=HN.out.2;omega);have hsl:=OwnIt.slv hO;obtain⟨k,hk⟩:∃k,(l.flatMap fun n=>oneN n.path (NP.left n)).length=k:=⟨_,rfl⟩;unfold OwnIt at hO;rw[hk] at hO;obtain⟨A2,c2,rfl,-,-,-⟩:=SlV_of_any hO;have HT:=zH (treeOf_any wr _ (l.flatMap fun n=>oneN n.path (NP.left n)) hsl (by omega) (fun e he=>by
    obtain⟨n,hn,he⟩:=List.mem_flatMap.1 he;rw[(one_mem.1 he).1];exact HZ.out.1 n hn) HZ.out.2.2)
   rw[hk] at HT;have HB:=zH hbr;clear hO hbr hol hsl hk;(go_wp2_with fail);refine HT.out.mono ?_;rintro e w2 ⟨bt',bm',rfl,hT,-,-,hb2⟩;have H2:=zH (zA hT (HB.out.trans (hb2.mono HB.out.size)));clear hT hb2 HT;(go_wp2_with fail);(go_ret2);exact⟨bt',bm',rfl,H2.out.1,H2.out.2⟩
theorem regTree1_any (B0:Nat)(w:World)(gs bt bt2 m0 m1 mc N:Nat)(policy:Int)(pv gv:Value)(l:List NP)(gr:List ByteArray)
  (h:RgAt B0 w gs bt bt2 m0 m1 mc N policy pv gv l gr) (hl:l.length≤400) (hz:∀n∈l,n.path.size≤90000∧NdIn (NP.right n)) (hr:Rise (l.map NP.path)) (hti:TI (l.flatMap fun n=>oneN n.path (NP.right n))):
  Calls Tryz.prog 29 #[.pointer (some ⟨gs,0,none⟩),.int .i64 1] w fun e w'=>∃bt' bm',e= .returned (.tuple #[.pointer (some ⟨bt',0,none⟩),.int .i64 0])∧TreeAt w' bt' bm' (l.flatMap fun n=>oneN n.path (NP.right n))∧Below w.heap.size w w':=by
 have hn:(l.map NP.path).length=l.length:=zS _;have hrp:=(h:RgIn _ _ _ _ _ _ _ _ _ _ _ _ _ _ _ _ _).rp;rw[←flat_sE] at hrp;have hsv:=SlV.of_own hrp sE_lenP (by decide);have hb:=(h:RgIn _ _ _ _ _ _ _ _ _ _ _ _ _ _ _ _ _).box;have hm:=(h:RgIn _ _ _ _ _ _ _ _ _ _ _ _ _ _ _ _ _).mB;have z3:=hb.cell 3;simp only[qA,qB,qC] at z3;have H0:=zH (zA hb (zA hm hsv));have HZ:=zH (zA hz (zA hr hti));obtain⟨A,c,rfl,hc1,hc2,-⟩:=hsv;unfold maxLen at hc2;rw[hn] at hc1 z3 H0;obtain⟨n,hnl⟩:∃n,l.length=n:=⟨_,rfl⟩;have HN:=zH (zA hn hnl);rw[hnl] at hc1 z3 H0 hl;clear h hrp hb hm hn hnl hz hr hti;go_enter Tryz.func29,Tryz.ntmps29
 go_wp2_with fail
 go_loopw [6,17] (fun ov iv wr=>∃i:Nat,i≤n∧iv= .int .i64 i∧OwnIt wr w.heap.size ov ((l.take i).flatMap fun n=>oneN n.path (NP.right n))∧Below w.heap.size w wr) (fun _ iv=>fun _=>n-(intOf iv).toNat)
 case atStart=>exact⟨0,Nat.zero_le _,rfl,World.ownsRow_nil _ _ _ _,zR _ _⟩
 case round=>
  obtain⟨i,hi,rfl,hO,hbr⟩:=hrel;by_cases hlt:i<n
  ·have hiL:i<l.length:=by have:=HN.out.2;omega
   (have hiM:i<(l.map NP.path).length:=by rw[zS];exact hiL);obtain⟨A',c',hA,_,_,hso⟩:=H0.out.2.2.below hbr (zN _);rw[HN.out.1,HN.out.2] at hA;(obtain⟨rfl,rfl⟩:A=A'∧c=c':=by injection hA with e1 e2 e3;exact⟨e1,e3⟩);clear hA;obtain⟨b,off,rfl,hbb,hcs⟩:=hso (by omega);have c0:=hcs i hiM 0 (by omega);simp only[sE,List.getElem_map,qC,Nat.add_zero,Nat.mul_one] at c0;clear hcs hso;(have hi1:(i:Int)<n:=by omega);have hfl:(l.take (i+1)).flatMap (fun n=>oneN n.path (NP.right n))=(l.take i).flatMap (fun n=>oneN n.path (NP.right n))++oneN l[i].path (NP.right l[i]):=by
    rw[zG hiL,List.flatMap_append];simp
   have hnd:=ndAt_mem NP.right HZ.out.2.1 (zP hiL);have hzi:=HZ.out.1 _ (zP hiL);obtain⟨x,hx⟩:∃x,l[i]=x:=⟨_,rfl⟩;simp only[hx] at c0 hfl hnd hzi;clear hx;obtain⟨q,hq⟩:∃q,x.path=q:=⟨_,rfl⟩;obtain⟨nd,hndq⟩:∃nd,NP.right x=nd:=⟨_,rfl⟩;rw[hq,hndq] at hfl hzi;rw[hq] at c0 hnd;rw[hndq] at hnd;have hqk:okT q:=zT hzi.1 (by unfold maxLen;omega);have hbx:=H0.out.1.below hbr H0.out.1.lt;have hmx:=H0.out.2.1.below hbr H0.out.2.1.lt;have z4:=hbx.cell 5;simp only[qA,qB,qC] at z4;have hlk:=hmx.look (keyStr Tryz.underlying9) Tryz.underlying73 (zeroNd wr) hqk;rw[lkN_getD,hnd] at hlk;have HI:=zH (regItems_any wr q nd);(have h1len:(oneN q nd).length≤1:=by unfold oneN;split<;>simp);have hol:((l.take i).flatMap fun n=>oneN n.path (NP.right n)).length≤400:=zT (flat_one_len NP.right (l.take i)) (by rw[zL];omega);obtain⟨LT,hLT⟩:∃L,((l.take i).flatMap fun n=>oneN n.path (NP.right n))=L:=⟨_,rfl⟩;rw[hLT] at hO hfl hol;obtain⟨kl,hkl⟩:∃k,LT.length=k:=⟨_,rfl⟩;unfold OwnIt at hO;rw[hkl] at hO hol;obtain⟨A6,c6,rfl,-,-,-⟩:=SlV_of_any hO;have HO:=zH (zA hO (zA hbr (zA hfl (zA h1len (zA hol hkl)))));obtain⟨ka,kb,kc,kd⟩:=nd;simp only[Nd.c] at hlk HI;clear hO hbr hfl hnd hzi hbx hmx hq hndq h1len hol hLT hkl;(go_wp2_with fail);refine HI.out.mono ?_;rintro e w2 ⟨r,rfl,hr2,hb2⟩;have h2:=own_kept HO.out.1 hb2;have hr2l:=hr2.slv;obtain⟨A7,c7,rfl,-,-,-⟩:=SlV_of_any hr2;have H2:=zH (zA h2 (zA hr2l (HO.out.2.1.trans (hb2.mono HO.out.2.1.size))));clear hr2 hr2l hb2 h2 HI hlk z4 c0;(go_wp2_with (at_builtin;refine wpList_app_slv rfl _ _ 25 rfl w.heap.size 59 _ _ _ Tryz.underlying25 infoIt rfl (by decide) _ kl (LT.flatMap eCSN) rfl H2.out.1 eCSN eCSN_len eCSN_one _ (oneN q ⟨ka,kb,kc,kd⟩) rfl H2.out.2.1 (by have:=HO.out.2.2.2.1;have:=HO.out.2.2.2.2.1;omega) (by decide) H2.out.2.2.size ?_;intro v5 w5 ho5 hg5));have hbb5:=H2.out.2.2.grown hg5 H2.out.2.2.size (fun k hk=>(H2.out.1.lt k hk).1);have ho5':OwnIt w5 w.heap.size v5 ((l.take (i+1)).flatMap fun n=>oneN n.path (NP.right n)):=by
    rw[HO.out.2.2.1];unfold OwnIt;rw[zF,List.flatMap_append,HO.out.2.2.2.2.2];exact ho5
   have H5:=zH (zA ho5' hbb5);clear ho5 hg5 hbb5 ho5';(go_wp2_with fail);go_roundw
   case rel=>exact⟨i+1,by omega,by go_num,H5.out.1,H5.out.2⟩
   case measure=>simp [intOf];omega
  ·obtain rfl:i=n:=by omega
   rw[zO (by have:=HN.out.2;omega)] at hO;have hol:(l.flatMap fun n=>oneN n.path (NP.right n)).length≤400:=zT (flat_one_len NP.right l) (by have:=HN.out.2;omega);have hsl:=OwnIt.slv hO;obtain⟨k,hk⟩:∃k,(l.flatMap fun n=>oneN n.path (NP.right n)).length=k:=⟨_,rfl⟩;unfold OwnIt at hO;rw[hk] at hO;obtain⟨A2,c2,rfl,-,-,-⟩:=SlV_of_any hO;have HT:=zH (treeOf_any wr _ (l.flatMap fun n=>oneN n.path (NP.right n)) hsl (by omega) (fun e he=>by
    obtain⟨n,hn,he⟩:=List.mem_flatMap.1 he;rw[(one_mem.1 he).1];exact HZ.out.1 n hn) HZ.out.2.2)
   rw[hk] at HT;have HB:=zH hbr;clear hO hbr hol hsl hk;(go_wp2_with fail);refine HT.out.mono ?_;rintro e w2 ⟨bt',bm',rfl,hT,-,-,hb2⟩;have H2:=zH (zA hT (HB.out.trans (hb2.mono HB.out.size)));clear hT hb2 HT;(go_wp2_with fail);(go_ret2);exact⟨bt',bm',rfl,H2.out.1,H2.out.2⟩
end Go.Proofs.YtnpehjgnplaabaaGreatDoor
namespace Sw
open Go Go.Proofs.YtnpehjgnplaabaaGreatDoor
def heldP (L:List MkE) (X Y:List NE) (p:ByteArray):Option MkE:=if(findM L p).isSome=true∧¬printN (getT X p)=printN (getT Y p) then some (p,(findM L p).getD ⟨0,0,0,0,0⟩) else none
theorem heldP_take (L:List MkE)(X Y:List NE)(ps:List ByteArray)(i:Nat)(h:i<ps.length):(ps.take (i+1)).filterMap (heldP L X Y)=(ps.take i).filterMap (heldP L X Y)++(heldP L X Y ps[i]).toList:=by
 rw[zG h,List.filterMap_append];cases hh:heldP L X Y ps[i] with
 | none=>simp [hh]
 | some c=>simp [hh]
end Sw
namespace Go.Proofs.YtnpehjgnplaabaaGreatDoor
open Go Go.RowKit
open Sw
theorem regBase_any (B0:Nat)(w:World)(gs bt bt2 m0 m1 mc N:Nat)(policy:Int)(pv gv u1 u2:Value)(l:List NP)(gr:List ByteArray)(l1 l2:List MkE)(tb tm tb2 tm2:Nat)(X Y:List NE)
  (h:RgAt B0 w gs bt bt2 m0 m1 mc N policy pv gv l gr) (hl:l.length≤400) (hz:∀q∈l.map NP.path,q.size≤90000) (h1:SlV w 6 eCM u1 l1) (h2:SlV w 6 eCM u2 l2) (hl1:l1.length≤1000) (hl2:l2.length≤1000)
  (hX:TreeAt w tb tm X) (hY:TreeAt w tb2 tm2 Y) (hxl:X.length≤1000) (hyl:Y.length≤1000) (hxd:∀e∈X,e.2.data.size≤maxLen) (hyd:∀e∈Y,e.2.data.size≤maxLen):
  Calls Tryz.prog 30 #[.pointer (some ⟨gs,0,none⟩),.agg #[u1,u2],.pointer (some ⟨tb,0,none⟩),.pointer (some ⟨tb2,0,none⟩)] w fun e w'=>∃ua uh,e= .returned (.agg #[ua,uh])∧OwnMk w' w.heap.size ua (agreeM (marksT X) (marksT Y))∧OwnMk w' w.heap.size uh ((l.map NP.path).filterMap (heldP (l1++l2) X Y))∧Below w.heap.size w w':=by
 have hn:(l.map NP.path).length=l.length:=zS _;obtain⟨ps,hps⟩:∃ps,l.map NP.path=ps:=⟨_,rfl⟩;have hrp:=(h:RgIn _ _ _ _ _ _ _ _ _ _ _ _ _ _ _ _ _).rp;rw[←flat_sE] at hrp;have hsv:=SlV.of_own hrp sE_lenP (by decide);have hb:=(h:RgIn _ _ _ _ _ _ _ _ _ _ _ _ _ _ _ _ _).box;rw[hps] at hsv hz hn⊢;obtain⟨W,hW⟩:∃W,(w.alloc (.cells #[u1,u2] 24)).alloc (.cells #[.slice none 0 0,.slice none 0 0] 24)=W:=⟨_,rfl⟩;have hbW:Below w.heap.size w W:=by rw[←hW];exact((zR _ w).alloc (zN _) _).alloc (by simp) _
 have hB5:Blk W w.heap.size 24 #[u1,u2]:=by rw[←hW];exact blk_fst _ _ _ _
 have hB8:Blk W (w.heap.size+1) 24 #[.slice none 0 0,.slice none 0 0]:=by rw[←hW];exact blk_snd _ _ _ _
 have HOF:=zH (archOf_any W tb tm tb2 tm2 X Y (hX.below hbW) (hY.below hbW) hxl hyl hxd hyd);have HFD:=zH (fun V (hV:Below w.heap.size w V) p=>findM_any V u1 u2 l1 l2 p (h1.below hV (zN _)) (h2.below hV (zN _)) (by omega) (by omega));have HG1:=zH (fun V (hV:Below w.heap.size w V) p (hp:p.size≤90000)=>treeGet_any V tb tm X p (hX.below hV) (by omega) hp);have HG2:=zH (fun V (hV:Below w.heap.size w V) p (hp:p.size≤90000)=>treeGet_any V tb2 tm2 Y p (hY.below hV) (by omega) hp);have hux:=hX.map.up;have huy:=hY.map.up;have HNS:=zH (fun V p=>nodeSame_any V (getT X p) (getT Y p) (getT_size hux hxd) (getT_size huy hyd));have z3:=(hb.below hbW hb.lt).cell 3;simp only[qA,qB,qC] at z3;have H0:=zH (zA hb (zA hsv (zA hbW (zA hB5 hB8))));have HZ:=zH hz;have HW:=zH hW;have hln:ps.length≤400:=by omega
 obtain⟨AX,hAX⟩:∃a,agreeM (marksT X) (marksT Y)=a:=⟨_,rfl⟩;rw[hAX] at HOF⊢;obtain⟨A,c,rfl,hc1,hc2,-⟩:=hsv;obtain⟨A1,c1,rfl,-,-,-⟩:=h1;obtain⟨A2,c2,rfl,-,-,-⟩:=h2;unfold maxLen at hc2;obtain⟨n,hnl⟩:∃n,ps.length=n:=⟨_,rfl⟩;have HN:=zH hnl;rw[hnl] at hc1 z3 H0 hln;obtain⟨k1,hk1⟩:∃n,l1.length=n:=⟨_,rfl⟩;obtain⟨k2,hk2⟩:∃n,l2.length=n:=⟨_,rfl⟩;rw[hk1,hk2] at HFD HW H0;rw[hk1,hk2];clear h hrp hb hn hnl hz hX hY hxd hyd hux huy hbW hB5 hB8 hW hAX hps hk1 hk2;go_enter Tryz.func30,Tryz.ntmps30
 go_upto_region 1 with fail
 rw[HW.out];go_wp2_with fail
 refine HOF.out.mono ?_;rintro e w2 ⟨ua,rfl,hoa,hb2⟩;obtain⟨V,hV⟩:∃V,w2.alloc (.cells #[ua,.slice none 0 0] 24)=V:=⟨_,rfl⟩;obtain⟨g9,hg9⟩:∃g,w2.heap.size=g:=⟨_,rfl⟩;have hbV:Below w2.heap.size w2 V:=by rw[←hV];exact(zR _ w2).alloc (zN _) _
 have hB9:Blk V g9 24 #[ua,.slice none 0 0]:=by rw[←hV,←hg9];exact Blk.new _ _ _
 have hWV:Below W.heap.size W V:=hb2.trans (hbV.mono hb2.size);have hwV:Below w.heap.size w V:=H0.out.2.2.1.trans (hWV.mono H0.out.2.2.1.size);have hWs:w.heap.size+1<W.heap.size:=H0.out.2.2.2.2.lt;have hg9s:w.heap.size+1<g9:=by rw[←hg9];exact zQ hWs hb2.size
 have hoaV:V.ownsRow w.heap.size 63 6 ua AX.length (AX.flatMap eCM):=own_wide (own_kept hoa hbV) H0.out.2.2.1.size;have hbxV:=H0.out.1.below hwV H0.out.1.lt;have y3:=hbxV.cell 3;simp only[qA,qB,qC] at y3;have H2:=zH (zA hwV (zA (H0.out.2.2.2.1.below hWV H0.out.2.2.2.1.lt) (zA (H0.out.2.2.2.2.below hWV H0.out.2.2.2.2.lt) (zA hB9 hoaV))));obtain⟨Aa,ca,rfl,-,-,-⟩:=SlV_of_any hoa;obtain⟨na,hna⟩:∃n,AX.length=n:=⟨_,rfl⟩;have HNA:=zH hna;rw[hna] at hV H2⊢;have HVV:=zH (zA hV hg9);clear hoa hb2 hbV hB9 hWV hwV hoaV hbxV z3 HOF hna hV hg9;go_upto_region 2 with fail
 rw[HVV.out.1];try rw[HVV.out.2]
 go_wp2_with fail
 go_loopw [23] (fun iv wr=>∃(i:Nat) (uh:Value),i≤n∧iv= .int .i64 i∧Below w.heap.size w wr∧Blk wr w.heap.size 24 #[.slice A1 k1 c1,.slice A2 k2 c2]∧Blk wr (w.heap.size+1) 24 #[.slice none 0 0,.slice none 0 0]∧Blk wr g9 24 #[.slice Aa na ca,uh]∧wr.ownsRow w.heap.size 63 6 (.slice Aa na ca) na (AX.flatMap eCM)∧wr.ownsRow w.heap.size 63 6 uh ((ps.take i).filterMap (heldP (l1++l2) X Y)).length (((ps.take i).filterMap (heldP (l1++l2) X Y)).flatMap eCM)∧(∀g,(Value.slice Aa na ca).ownBlock=some g→uh.ownBlock=some g→False)) (fun iv _=>n-(intOf iv).toNat)
 case atStart=>exact⟨0,_,Nat.zero_le _,rfl,H2.out.1,H2.out.2.1,H2.out.2.2.1,H2.out.2.2.2.1,H2.out.2.2.2.2,World.ownsRow_nil _ _ _ _,fun g _ h=>by simp [Value.ownBlock] at h⟩
 case round=>
  obtain⟨i,uh,hi,rfl,hbr,b5,b8,b9,hoa,hoh,hap⟩:=hrel;by_cases hlt:i<n
  ·have hiP:i<ps.length:=by have:=HN.out;omega
   obtain⟨A',c',hA,_,_,hso⟩:=H0.out.2.1.below hbr (zN _);rw[HN.out] at hA;(obtain⟨rfl,rfl⟩:A=A'∧c=c':=by injection hA with e1 e2 e3;exact⟨e1,e3⟩);clear hA;obtain⟨b,off,rfl,hbb,hcs⟩:=hso (by omega);have c0:=hcs i hiP 0 (by omega);simp only[sE,qC,Nat.add_zero,Nat.mul_one] at c0;clear hcs hso;(have hi1:(i:Int)<n:=by omega);have hst:=heldP_take (l1++l2) X Y ps i hiP;have hqz:=HZ.out _ (zP hiP);obtain⟨q,hq⟩:∃q,ps[i]=q:=⟨_,rfl⟩;simp only[hq] at c0 hst hqz;clear hq;(have hhd:heldP (l1++l2) X Y q=if(findM (l1++l2) q).isSome=true∧¬printN (getT X q)=printN (getT Y q) then some (q,(findM (l1++l2) q).getD ⟨0,0,0,0,0⟩) else none:=rfl);rw[hhd] at hst;have hF:=HFD.out wr hbr q;(have hS:=fun V=>HNS.out V q);(have hL:=fun V hV=>HG1.out V hV q hqz);(have hR:=fun V hV=>HG2.out V hV q hqz);obtain⟨K,hK⟩:∃K,(ps.take i).filterMap (heldP (l1++l2) X Y)=K:=⟨_,rfl⟩;rw[hK] at hst hoh;obtain⟨S,hS2⟩:∃S,decide (printN (getT X q)=printN (getT Y q))=S:=⟨_,rfl⟩;simp only[hS2] at hS;generalize (findM (l1++l2) q).getD ⟨0,0,0,0,0⟩=pr at*;generalize (findM (l1++l2) q).isSome=had at*;obtain⟨nx,hnx⟩:∃n,getT X q=n:=⟨_,rfl⟩;obtain⟨ny,hny⟩:∃n,getT Y q=n:=⟨_,rfl⟩;rw[hnx,hny] at hst hS2;simp only[hnx,hny] at hS hL hR;clear hnx hny hhd;obtain⟨xa,xb,xc,xd⟩:=nx;obtain⟨ya,yb,yc,yd⟩:=ny;obtain⟨fa,fb,fc,fd,fs⟩:=pr;simp only[Nd.c] at hS hL hR;simp only[Pr.c] at hF;obtain⟨kk,hkk⟩:∃k,K.length=k:=⟨_,rfl⟩;rw[hkk] at hoh;(have hkl:kk≤400:=by rw[←hkk,←hK];exact zT (List.length_filterMap_le _ _) (by rw[zL];omega));obtain⟨Ah,ch,rfl,-,-,-⟩:=SlV_of_any hoh;have x0:=b5.cell 0;have x1:=b5.cell 1;simp only[qA,qB,qC] at x0 x1;have HH:=zH (zA hbr (zA b5 (zA b8 (zA b9 (zA hoa (zA hoh hap))))));have HF:=zH hF;have HS:=zH hS;have HL:=zH hL;have HR:=zH hR;have HST:=zH (zA hst (zA hS2 hkk));clear hbr b5 b8 b9 hoa hoh hap hF hS hL hR hst hS2 hK hkk hqz;(go_wp2_with fail);refine HF.out.mono ?_;rintro e w3 ⟨rfl,hb3⟩;obtain⟨V,hV⟩:∃V,w3.alloc (.cells #[.int .i64 fa,.int .i64 fb,.int .u32 fc,.int .i64 fd,.int .u32 fs] 61)=V:=⟨_,rfl⟩;obtain⟨gp,hgp⟩:∃g,w3.heap.size=g:=⟨_,rfl⟩;(have hbV:Below w3.heap.size w3 V:=by rw[←hV];exact(zR _ w3).alloc (zN _) _);(have hBp:Blk V gp 61 #[.int .i64 fa,.int .i64 fb,.int .u32 fc,.int .i64 fd,.int .u32 fs]:=by rw[←hV,←hgp];exact Blk.new _ _ _);have hrV:Below wr.heap.size wr V:=hb3.trans (hbV.mono hb3.size);have H3:=zH (zA hrV hBp);clear hb3 hbV hrV hBp x0 x1 HF c0;have hskip:∀V':World,Below wr.heap.size wr V'→(if had=true∧¬printN (⟨xa,xb,xc,xd⟩:Nd)=printN ⟨ya,yb,yc,yd⟩ then some (q,(⟨fa,fb,fc,fd,fs⟩:Pr)) else none)=none→∃(i':Nat) (uh':Value),i'≤n∧Value.int .i64 ((i:Int)+1)= .int .i64 i'∧Below w.heap.size w V'∧Blk V' w.heap.size 24 #[.slice A1 k1 c1,.slice A2 k2 c2]∧Blk V' (w.heap.size+1) 24 #[.slice none 0 0,.slice none 0 0]∧Blk V' g9 24 #[.slice Aa na ca,uh']∧V'.ownsRow w.heap.size 63 6 (.slice Aa na ca) na (AX.flatMap eCM)∧V'.ownsRow w.heap.size 63 6 uh' ((ps.take i').filterMap (heldP (l1++l2) X Y)).length (((ps.take i').filterMap (heldP (l1++l2) X Y)).flatMap eCM)∧(∀g,(Value.slice Aa na ca).ownBlock=some g→uh'.ownBlock=some g→False):=fun V' hV' hnone=>by
    have e:=HST.out.1;rw[hnone] at e;refine⟨i+1,_,by omega,by go_num,HH.out.1.trans (hV'.mono HH.out.1.size),HH.out.2.1.below hV' HH.out.2.1.lt,HH.out.2.2.1.below hV' HH.out.2.2.1.lt,HH.out.2.2.2.1.below hV' HH.out.2.2.2.1.lt,own_kept HH.out.2.2.2.2.1 hV',?_,HH.out.2.2.2.2.2.2⟩;rw[e];simp only[Option.toList,List.append_nil,HST.out.2.2];exact own_kept HH.out.2.2.2.2.2.1 hV'
   have HSK:=zH hskip;clear hskip;cases had with
   | false=>
    (go_wp2_with fail);clear hV hgp;go_roundw
    case rel=>exact HSK.out V H3.out.1 (by simp)
    case measure=>simp [intOf];omega
   | true=>
    (go_wp2_with fail);clear hV hgp;refine(HL.out V (HH.out.1.trans (H3.out.1.mono HH.out.1.size))).mono ?_;rintro e w4 ⟨rfl,hb4⟩;have H4:=zH (H3.out.1.trans (hb4.mono H3.out.1.size));have hBp4:=H3.out.2.below hb4 H3.out.2.lt;clear hb4 HL;(go_wp2_with fail);refine(HR.out w4 (HH.out.1.trans (H4.out.mono HH.out.1.size))).mono ?_;rintro e w5 ⟨rfl,hb5⟩;have H5:=zH (zA (H4.out.trans (hb5.mono H4.out.size)) (hBp4.below hb5 hBp4.lt));clear hb5 HR hBp4;(go_wp2_with fail);refine(HS.out w5).mono ?_;rintro e w6 ⟨rfl,hb6⟩;have hB6:=H5.out.2.below hb6 H5.out.2.lt;have h56:=H5.out.1.trans (hb6.mono H5.out.1.size);have H6:=zH h56;obtain⟨p0,p1,p2,p3,p4⟩:=zc5 hB6;simp only[qA,qB,qC] at p0 p1 p2 p3 p4;clear hb6 HS hB6;cases S with
    | true=>
     (go_wp2_with fail);go_roundw
     case rel=>exact HSK.out w6 H6.out (by rw[if_neg (fun h=>h.2 (of_decide_eq_true HST.out.2.1))])
     case measure=>simp [intOf];omega
    | false=>
     have hb9:=HH.out.2.2.2.1.below h56 HH.out.2.2.2.1.lt;have y1:=hb9.cell 1;simp only[qA,qB,qC] at y1;have HY:=zH (show(ps.take (i+1)).filterMap (heldP (l1++l2) X Y)=K++[(q,(⟨fa,fb,fc,fd,fs⟩:Pr))] by
      rw[HST.out.1,if_pos ⟨by first | rfl | trivial,of_decide_eq_false HST.out.2.1⟩];rfl)
     have H9:=zH (zA hb9 (zA (own_kept HH.out.2.2.2.2.1 h56) (zA (own_kept HH.out.2.2.2.2.2.1 h56) (zA (HH.out.2.1.below h56 HH.out.2.1.lt) (zA (HH.out.2.2.1.below h56 HH.out.2.2.1.lt) (HH.out.1.trans (h56.mono HH.out.1.size)))))));clear h56 hb9;(go_wp2_with (at_builtin;go_loud (refine wpList_app rfl _ _ 22 rfl w.heap.size 63 _ _ _ Tryz.underlying22 infoMk rfl (by decide) _ kk (K.flatMap eCM) rfl (own_kept H9.out.2.2.1 ((zR _ _).alloc (zN _) _)) w6.heap.size 1 #[.string q,.int .i64 fa,.int .i64 fb,.int .u32 fc,.int .i64 fd,.int .u32 fs] 63 rfl (Blk.new w6 _ _) rfl (by simp [Value.oneCell']) (by omega) (by decide) (zT H9.out.2.2.2.2.2.size (by simp)) _ rfl ?_;intro g cap w7 ho7 hg7 hat7 hlt7;have hnb:∀g' cs,Blk w6 g' 24 cs→Blk w7 g' 24 cs:=(fun g' cs hB=>(hB.alloc _).grown hg7 (fun e=>by obtain⟨cur,hc⟩:=own_blkB H9.out.2.2.1 e.symm;exact Blk.other hc hB (by decide) rfl));have HNB:=zH hnb;have HO7:=zH (zA ho7 (zA hg7 hat7));have hb7:=hnb _ _ H9.out.1;have c7:=hb7.cell 1;have f7:=hb7.frozen 1;simp only[qA,qB,qC] at c7;clear hnb hb7 ho7 hg7 hat7 y1 p0 p1 p2 p3 p4)));go_roundw
     case rel=>
      have hal:Below w6.heap.size w6 (w6.alloc (.cells #[.string q,.int .i64 fa,.int .i64 fb,.int .u32 fc,.int .i64 fd,.int .u32 fs] 63)):=(zR _ _).alloc (zN _) _;have hne9:g≠g9:=by
       rcases HO7.out.2.2 with e | e
       ·obtain⟨cur,hc⟩:=own_blkB H9.out.2.2.1 e;exact fun e2=>Blk.other hc H9.out.1 (by decide) (by rw[e2])
       ·have:=H9.out.1.lt;have:=hal.size;omega
      have hbw7:Below w.heap.size w w7:=(H9.out.2.2.2.2.2.trans (hal.mono H9.out.2.2.2.2.2.size)).grown HO7.out.2.1 (zT H9.out.2.2.2.2.2.size hal.size) (fun k hk=>(H9.out.2.2.1.lt k hk).1);have hs7:∀(v:Value) (xs:List Value) (m:Nat),w7.ownsRow w.heap.size 63 6 v m xs→(w7.setCell ⟨g9,1,none⟩ (.slice (some ⟨g,0,none⟩) (kk+1) cap)).ownsRow w.heap.size 63 6 v m xs:=fun v xs m ho=>own_sameB ho (fun g' hg'=>zJ w7 ⟨g9,1,none⟩ _ g' (fun e=>by
       obtain⟨cur,hc⟩:=own_blkB ho hg';exact Blk.other hc (HNB.out _ _ H9.out.1) (by decide) (by rw[e])))
      have hoa7:w7.ownsRow w.heap.size 63 6 (.slice Aa na ca) na (AX.flatMap eCM):=own_sameB H9.out.2.1 (fun g' hg'=>(HO7.out.2.1.block g' (zQ (H9.out.2.1.lt g' hg').2 hal.size) (fun e=>HH.out.2.2.2.2.2.2 g' hg' e.symm)).trans (hal.block g' (H9.out.2.1.lt g' hg').2));have g9ne:∀g' cs,g'≠g9→Blk w7 g' 24 cs→Blk (w7.setCell ⟨g9,1,none⟩ (.slice (some ⟨g,0,none⟩) (kk+1) cap)) g' 24 cs:=fun g' cs hne hB=>by
       have:=zJ w7 ⟨g9,1,none⟩ (.slice (some ⟨g,0,none⟩) (kk+1) cap) g' hne;unfold Blk at hB⊢;rw[this,hB]
      refine⟨i+1,.slice (some ⟨g,0,none⟩) (kk+1) cap,by omega,by go_num,hbw7.setCell (p:=⟨g9,1,none⟩) (by show w.heap.size≤g9;omega) _,g9ne _ _ (by omega) (HNB.out _ _ H9.out.2.2.2.1),g9ne _ _ (by omega) (HNB.out _ _ H9.out.2.2.2.2.1),?_,hs7 _ _ _ hoa7,?_,fun g' h1 h2=>?_⟩
      ·have:=(HNB.out _ _ H9.out.1).put 1 (.slice (some ⟨g,0,none⟩) (kk+1) cap)
       simpa using this
      ·rw[HY.out,zF,List.length_singleton,HST.out.2.2,List.flatMap_append];exact hs7 _ _ _ HO7.out.1
      ·(have e:g'=g:=by simpa [Value.ownBlock] using h2.symm);subst e;rcases HO7.out.2.2 with e | e
       ·exact HH.out.2.2.2.2.2.2 _ h1 e
       ·have h3:=(H9.out.2.1.lt _ h1).2;have:=hal.size;omega
     case measure=>simp [intOf];omega
  ·obtain rfl:i=n:=by omega
   rw[zO (by have:=HN.out;omega)] at hoh;obtain⟨K,hK⟩:∃K,ps.filterMap (heldP (l1++l2) X Y)=K:=⟨_,rfl⟩;rw[hK] at hoh;obtain⟨kk,hkk⟩:∃k,K.length=k:=⟨_,rfl⟩;rw[hkk] at hoh;obtain⟨Ah,ch,rfl,-,-,-⟩:=SlV_of_any hoh;have x0:=b9.cell 0;have x1:=b9.cell 1;have y0:=b8.cell 0;have y1:=b8.cell 1;have f0:=b8.frozen 0;have f1:=b8.frozen 1;simp only[qA,qB,qC] at x0 x1 y0 y1;have HE:=zH (zA hbr (zA b8 (zA hoa (zA hoh (zA hK hkk)))));clear hbr b5 b8 b9 hoa hoh hap hK hkk;(go_wp2_with fail);have hset:∀(v:Value) (xs:List Value) (m:Nat),wr.ownsRow w.heap.size 63 6 v m xs→((wr.setCell ⟨w.heap.size+1,0,none⟩ (.slice Aa na ca)).setCell ⟨w.heap.size+1,1,none⟩ (.slice Ah kk ch)).ownsRow w.heap.size 63 6 v m xs:=fun v xs m ho=>own_sameB ho (fun g' hg'=>by
    have hne:g'≠w.heap.size+1:=fun e=>by
     obtain⟨cur,hc⟩:=own_blkB ho hg';exact Blk.other hc HE.out.2.1 (by decide) (by rw[e])
    exact(zJ _ ⟨w.heap.size+1,1,none⟩ _ g' hne).trans (zJ _ ⟨w.heap.size+1,0,none⟩ _ g' hne))
   refine bodyPost_ret (v:= .agg #[.slice Aa na ca,.slice Ah kk ch]) (results_cell_row rfl _ _ (w.heap.size+1) 24 #[.slice Aa na ca,.slice Ah kk ch] (0,0) _ rfl ((HE.out.2.1.put 0 (.slice Aa na ca)).put 1 (.slice Ah kk ch)) Tryz.underlying24 rfl (by kernel_rfl)) rfl ⟨_,_,rfl,?_,?_,?_⟩
   ·unfold OwnMk;rw[HNA.out];exact hset _ _ _ HE.out.2.2.1
   ·unfold OwnMk;rw[HE.out.2.2.2.2.1,HE.out.2.2.2.2.2];exact hset _ _ _ HE.out.2.2.2.1
   ·exact(HE.out.1.setCell (p:=⟨w.heap.size+1,0,none⟩) (Nat.le_succ _) _).setCell (p:=⟨w.heap.size+1,1,none⟩) (Nat.le_succ _) _
end Go.Proofs.YtnpehjgnplaabaaGreatDoor
namespace Sw
open Go Go.Proofs.YtnpehjgnplaabaaGreatDoor
theorem getT_side {xs ys:List NE}(hx:TI xs)(hy:TI ys){l:List NP}(f:NP→Nd)(hf:∀n∈l,f n=getT xs n.path∨f n=getT ys n.path)(hr:Rise (l.map NP.path)){n:NP}(hn:n∈l):getT (l.flatMap fun n=>oneN n.path (f n)) n.path=f n:=by
 have hup:=one_up f l hr;by_cases hk:(f n).kind=0
 ·have h0:f n=ndZ:=by
   rcases hf n hn with e | e
   ·rw[e] at hk⊢;exact getT_zero hx _ hk
   ·rw[e] at hk⊢;exact getT_zero hy _ hk
  rw[h0];refine getT_out hup (fun e he e2=>?_);obtain⟨m,hm,he⟩:=List.mem_flatMap.1 he;obtain⟨rfl,hmk⟩:=one_mem.1 he;simp only at e2;have h1:=fN_mem hr hm;have h2:=fN_mem hr hn;rw[e2,h2] at h1;cases h1
  exact hmk hk
 ·exact getT_in hup (e:=(n.path,f n)) (List.mem_flatMap.2 ⟨n,hn,one_mem.2 ⟨rfl,hk⟩⟩)
theorem held_paths {policy:Int}{xs ys:List NE}(hx:TI xs)(hy:TI ys)(L:List MkE){l:List NP}(hs:∀n∈l,ShN policy xs ys n)(hr:Rise (l.map NP.path)):(l.map NP.path).filterMap (heldP L (leftN l) (rightN l))=heldN L l:=by
 unfold heldN;rw[List.filterMap_map];have hc:∀(m:List NP),(∀n∈m,n∈l)→m.filterMap (heldP L (leftN l) (rightN l)∘NP.path)=m.filterMap fun n=>if(findM L n.path).isSome=true∧¬printN n.left=printN n.right then some (n.path,(findM L n.path).getD ⟨0,0,0,0,0⟩) else none:=by
  intro m;induction m with
  | nil=>intro _;rfl
  | cons n m ih=>
   intro hm;rw[List.filterMap_cons,List.filterMap_cons,ih (fun k hk=>hm k (List.mem_cons_of_mem _ hk))];have hn:=hm n (List.mem_cons_self ..);have e1:getT (leftN l) n.path=n.left:=getT_side hx hy NP.left (fun k hk=>(hs k hk).1.1) hr hn;have e2:getT (rightN l) n.path=n.right:=getT_side hx hy NP.right (fun k hk=>(hs k hk).1.2) hr hn;simp only[Function.comp,heldP,e1,e2]
 exact hc l (fun _ h=>h)
def clsP (n:NP):Option (ByteArray×Int):=if n.cls=0 then none else some (n.path,n.cls)
theorem clash_take (l:List NP)(i:Nat)(h:i<l.length):clashN (l.take (i+1))=clashN (l.take i)++(clsP l[i]).toList:=by
 unfold clashN;rw[zG h,List.filterMap_append];unfold clsP;cases hh:(if l[i].cls=0 then none else some (l[i].path,l[i].cls)) with
 | none=>simp [hh]
 | some c=>simp [hh]
theorem lkC_mem {l:List NP}(hr:Rise (l.map NP.path)){n:NP}(hn:n∈l):lkC l n.path=if n.cls=0 then none else some (.int .i64 n.cls):=by
 unfold lkC;rw[fN_mem hr hn];rfl
theorem run_at {policy:Int}{xs ys:List NE}{l:List NP}(hr:Rise (l.map NP.path)){i:Nat}(h:i<l.length):∃m∈(runN policy xs ys l i).1,m.path=l[i].path∧runN policy xs ys l (i+1)=goN policy xs ys (runN policy xs ys l i) m:=by
 have hi:i<(runN policy xs ys l i).1.length:=by rw[run_len];exact h
 refine⟨(runN policy xs ys l i).1[i],zP hi,?_,?_⟩
 ·have h1:=run_path (policy:=policy) (xs:=xs) (ys:=ys) (l:=l) i;have h2:=congrArg (fun q=>q[i]?) h1
  simpa [hi,h] using h2
 ·conv=>lhs;unfold runN
  rw[zM hi]
theorem run_graft {policy:Int}{xs ys:List NE}{l:List NP}(i:Nat):(runN policy xs ys l i).2.length≤i:=by
 induction i with
 | zero=>simp [runN]
 | succ i ih=>
  unfold runN;split
  ·unfold goN;split
   ·simp only;split
    ·simp;exact ih
    ·omega
   ·omega
  ·omega
theorem begin_len (policy:Int)(L:List MkE)(xs ys:List NE):(beginN policy L xs ys).length≤L.length+xs.length+ys.length:=by
 unfold beginN allR;rw[zS,zS];refine zT (pathsS_len _) ?_;simp only[zF,zS];omega
end Sw
namespace Go.Proofs.YtnpehjgnplaabaaGreatDoor
open Go Go.RowKit
open Sw
def IdxPostM (p:MkE→Bool) (l:List MkE) (w:World) (e:Ending) (w':World):Prop:=
 ((∃i:Nat,∃h:i<l.length,(∀m (h:m<l.length),m<i→p l[m]=false)∧p l[i]=true∧e= .returned (.int .i64 i))∨((∀x∈l,p x=false)∧e= .returned (.int .i64 (-1))))∧Below w.heap.size w w'
theorem idxH_any (p:MkE→Bool)(C:World→Prop)(hC:∀W W',C W→W.grownBy W' none→C W')(w:World)(A:Option Addr)(n c g:Nat)(l:List MkE)(hl:l.length=n)(hn:n≤1000000)(hsl:SlOf w 6 eCM A l)(h0:C w)
  (hcall:∀W x,x∈l→C W→Calls Tryz.prog 87 #[.agg (eCM x).toArray,.pointer (some ⟨g,0,none⟩)] W fun e w'=>e= .returned (.bool (p x))∧Below W.heap.size W w'):
  Calls Tryz.prog 90 #[.slice A n c,.func (.func 87) #[] #[.pointer (some ⟨g,0,none⟩)]] w (IdxPostM p l w):=by
 have HS:=zH hsl;clear hsl;have HL:=zH hl;clear hl;have HC:=zH hC;clear hC;have HCL:=zH hcall;clear hcall;have H0:=zH h0;clear h0;go_enter Tryz.func90,Tryz.ntmps90
 go_wp2_with fail
 go_loopw [8] (fun iv wr=>∃i:Nat,i≤n∧iv= .int .i64 i∧(∀m (h:m<l.length),m<i→p l[m]=false)∧Below w.heap.size w wr) (fun iv _=>n-(intOf iv).toNat)
 case atStart=>exact⟨0,Nat.zero_le _,rfl,fun m h h'=>absurd h' (Nat.not_lt_zero _),zR _ _⟩
 case round=>
  obtain⟨i,hin,rfl,hno,hbr⟩:=hrel;have HNO:=zH hno;clear hno;by_cases hlt:i<n
  ·have hiL:i<l.length:=by have:=HL.out;omega
   obtain⟨b,off,rfl,hbb,hcs⟩:=(HS.out.below hbr (zN _)) (by omega);obtain⟨c0,c1,c2⟩:=zs3 (hcs i hiL);have c3':=hcs i hiL 3 (by omega);have c4:=hcs i hiL 4 (by omega);have c5:=hcs i hiL 5 (by omega);simp only[eCM,qB,qC,Nat.add_zero] at c0 c1 c2 c3' c4 c5;have HF:=zH (HCL.out wr l[i] (zP hiL) (HC.out w wr H0.out (grown_below hbr)));have HYES:=zH (fun(hp:p l[i]=true) w' (hb:Below w.heap.size w w')=>(⟨.inl ⟨i,hiL,HNO.out,hp,rfl⟩,hb⟩:IdxPostM p l w (.returned (.int .i64 i)) w'));have HNO2:=zH (fun(hp:p l[i]=false) m (hm:m<l.length) (hmi:m<i+1)=>(by
    by_cases e:m=i
    ·subst e;exact hp
    ·exact HNO.out m hm (by omega):p l[m]=false))
   generalize p l[i]=pv at*;generalize l[i]=X at*;obtain⟨q,⟨kd,md,tm,sz,sm⟩⟩:=X;simp only[eCM] at HF;simp only at c0 c1 c2 c3' c4 c5;(have q2:(i:Int)<n:=by omega);clear hcs;cases pv with
   | true=>
    have hyes:=HYES.out rfl;have HYES2:=zH hyes;clear hyes HYES HNO2;(go_wp2_with fail);refine HF.out.mono ?_;rintro e w2 ⟨rfl,hb2⟩;have HP:=zH (HYES2.out w2 (hbr.trans (hb2.mono hbr.size)));clear HF HNO;(go_wp2_with fail);go_ret;exact HP.out
   | false=>
    have hno2:=HNO2.out rfl;have HNO3:=zH hno2;clear hno2 HYES HNO2;(go_wp2_with fail);refine HF.out.mono ?_;rintro e w2 ⟨rfl,hb2⟩;have HP:=zH (zA HNO3.out (hbr.trans (hb2.mono hbr.size)));clear HF HNO;(go_wp2_with fail);go_roundw
    case rel=>exact⟨i+1,by omega,by go_num,HP.out.1,HP.out.2⟩
    case measure=>simp [intOf];omega
  ·obtain rfl:i=n:=by omega
   have hpst:IdxPostM p l w (.returned (.int .i64 (-1))) wr:=⟨.inr ⟨fun x hx=>by
    obtain⟨m,hm,rfl⟩:=List.mem_iff_getElem.1 hx;exact HNO.out m hm (by have:=HL.out;omega),rfl⟩,hbr⟩
   have HP:=zH hpst;clear hpst;(go_wp2_with fail);go_ret;exact HP.out
theorem conH_any (p:MkE→Bool)(C:World→Prop)(hC:∀W W',C W→W.grownBy W' none→C W')(w:World)(v:Value)(g:Nat)(l:List MkE)(hv:SlV w 6 eCM v l)(hn:l.length≤1000000)(h0:C w)
  (hcall:∀W x,x∈l→C W→Calls Tryz.prog 87 #[.agg (eCM x).toArray,.pointer (some ⟨g,0,none⟩)] W fun e w'=>e= .returned (.bool (p x))∧Below W.heap.size W w'):
  Calls Tryz.prog 54 #[v,.func (.func 87) #[] #[.pointer (some ⟨g,0,none⟩)]] w fun e w'=>e= .returned (.bool (l.any p))∧Below w.heap.size w w':=by
 obtain⟨A,c,rfl,_,_,hsl⟩:=hv;have HI:=zH (idxH_any p C hC w A l.length c g l rfl hn hsl h0 hcall);clear hsl h0 hcall hC;generalize hz:l.length=n at*;have HZ:=zH hz;clear hz;go_enter Tryz.func54,Tryz.ntmps54
 go_wp2_with fail
 refine HI.out.mono ?_;rintro e w1 ⟨⟨i,hi,_,hp,rfl⟩ | ⟨hno,rfl⟩,hb⟩
 ·have h1:l.any p=true:=List.any_eq_true.2 ⟨l[i],zP hi,hp⟩;have H1:=zH (zA h1 hb);have hi0:(0:Int)≤i:=by omega
  clear h1 hb HI hp;go_wp2_with fail
  go_ret;exact⟨by rw[H1.out.1];rfl,H1.out.2⟩
 ·have h1:l.any p=false:=by
   rw[Bool.eq_false_iff];intro h;obtain⟨m,hm,hp⟩:=List.any_eq_true.1 h;have h2:=hno m hm;rw[h2] at hp;cases hp
  have H1:=zH (zA h1 hb);clear h1 hb HI hno;go_wp2_with fail
  go_ret;exact⟨by rw[H1.out.1];rfl,H1.out.2⟩
theorem strMk (s t:ByteArray):(s.toList==t.toList)=decide (s=t):=by
 rw[ByteArray.toList_eq,ByteArray.toList_eq];by_cases h:s=t
 ·subst h;rw[zE rfl];simp
 ·rw[zD h,zB];intro e;exact h (ByteArray.ext (Array.ext' e))
theorem any_findM (l:List MkE)(p:ByteArray):(l.any fun m=>decide (m.1=p))=(findM l p).isSome:=by
 induction l with
 | nil=>rfl
 | cons m l ih=>
  rw[List.any_cons,findM_cons,ih];by_cases h:m.1=p
  ·rw[zE h,if_pos h];rfl
  ·rw[zD h,if_neg h];rfl
theorem archHas_any (w:World)(v:Value)(l:List MkE)(p:ByteArray)(hv:SlV w 6 eCM v l)(hn:l.length≤1000000):
  Calls Tryz.prog 52 #[v,.string p] w fun e w'=>e= .returned (.bool (findM l p).isSome)∧Below w.heap.size w w':=by
 have hb0:=(zR w.heap.size w).alloc (zN _) (.cells #[.string p] 9);have hB0:=Blk.new w 9 #[.string p];have HC:=zH (conH_any (fun m=>decide (m.1=p)) (fun W=>Blk W w.heap.size 9 #[.string p]) (fun W W' h hg=>h.grown hg (by simp)) _ v w.heap.size l (hv.below hb0 (zN _)) hn hB0 (fun W x hx hB=>by
  obtain⟨q,⟨kd,md,tm,sz,sm⟩⟩:=x;have x0:=hB.cell 0;simp at x0
  have hse:=strMk q p;simp only[eCM];have hba:=(zR W.heap.size W).alloc (zN _) (.cells #[.string q,.int .i64 kd,.int .i64 md,.int .u32 tm,.int .i64 sz,.int .u32 sm] 63);have HA:=zH hba;clear hba;have hlt:=hB.lt;generalize decide (q=p)=R at*;go_enter Tryz.func87,Tryz.ntmps87
  go_wp2_with fail
  go_ret;exact⟨rfl,HA.out⟩))
 rw[any_findM] at HC;generalize (findM l p).isSome=R at*;have HB:=zH hb0;clear hb0 hB0;obtain⟨A,c,rfl,_,_,_⟩:=hv;generalize l.length=n at*;go_enter Tryz.func52,Tryz.ntmps52
 go_wp2_with fail
 refine HC.out.mono ?_;rintro e w1 ⟨rfl,hb⟩;have H1:=zH (HB.out.trans (hb.mono HB.out.size));clear hb HC;go_wp2_with fail
 go_ret;exact⟨rfl,H1.out⟩
theorem idxR_any (p:MkE→Bool)(C:World→Prop)(hC:∀W W',C W→W.grownBy W' none→C W')(w:World)(A:Option Addr)(n c g:Nat)(l:List MkE)(hl:l.length=n)(hn:n≤1000000)(hsl:SlOf w 6 eCM A l)(h0:C w)
  (hcall:∀W x,x∈l→C W→Calls Tryz.prog 51 #[.agg (eCM x).toArray,.pointer (some ⟨g,0,none⟩)] W fun e w'=>e= .returned (.bool (p x))∧Below W.heap.size W w'):
  Calls Tryz.prog 90 #[.slice A n c,.func (.func 51) #[] #[.pointer (some ⟨g,0,none⟩)]] w (IdxPostM p l w):=by
 have HS:=zH hsl;clear hsl;have HL:=zH hl;clear hl;have HC:=zH hC;clear hC;have HCL:=zH hcall;clear hcall;have H0:=zH h0;clear h0;go_enter Tryz.func90,Tryz.ntmps90
 go_wp2_with fail
 go_loopw [8] (fun iv wr=>∃i:Nat,i≤n∧iv= .int .i64 i∧(∀m (h:m<l.length),m<i→p l[m]=false)∧Below w.heap.size w wr) (fun iv _=>n-(intOf iv).toNat)
 case atStart=>exact⟨0,Nat.zero_le _,rfl,fun m h h'=>absurd h' (Nat.not_lt_zero _),zR _ _⟩
 case round=>
  obtain⟨i,hin,rfl,hno,hbr⟩:=hrel;have HNO:=zH hno;clear hno;by_cases hlt:i<n
  ·have hiL:i<l.length:=by have:=HL.out;omega
   obtain⟨b,off,rfl,hbb,hcs⟩:=(HS.out.below hbr (zN _)) (by omega);obtain⟨c0,c1,c2⟩:=zs3 (hcs i hiL);have c3':=hcs i hiL 3 (by omega);have c4:=hcs i hiL 4 (by omega);have c5:=hcs i hiL 5 (by omega);simp only[eCM,qB,qC,Nat.add_zero] at c0 c1 c2 c3' c4 c5;have HF:=zH (HCL.out wr l[i] (zP hiL) (HC.out w wr H0.out (grown_below hbr)));have HYES:=zH (fun(hp:p l[i]=true) w' (hb:Below w.heap.size w w')=>(⟨.inl ⟨i,hiL,HNO.out,hp,rfl⟩,hb⟩:IdxPostM p l w (.returned (.int .i64 i)) w'));have HNO2:=zH (fun(hp:p l[i]=false) m (hm:m<l.length) (hmi:m<i+1)=>(by
    by_cases e:m=i
    ·subst e;exact hp
    ·exact HNO.out m hm (by omega):p l[m]=false))
   generalize p l[i]=pv at*;generalize l[i]=X at*;obtain⟨q,⟨kd,md,tm,sz,sm⟩⟩:=X;simp only[eCM] at HF;simp only at c0 c1 c2 c3' c4 c5;(have q2:(i:Int)<n:=by omega);clear hcs;cases pv with
   | true=>
    have hyes:=HYES.out rfl;have HYES2:=zH hyes;clear hyes HYES HNO2;(go_wp2_with fail);refine HF.out.mono ?_;rintro e w2 ⟨rfl,hb2⟩;have HP:=zH (HYES2.out w2 (hbr.trans (hb2.mono hbr.size)));clear HF HNO;(go_wp2_with fail);go_ret;exact HP.out
   | false=>
    have hno2:=HNO2.out rfl;have HNO3:=zH hno2;clear hno2 HYES HNO2;(go_wp2_with fail);refine HF.out.mono ?_;rintro e w2 ⟨rfl,hb2⟩;have HP:=zH (zA HNO3.out (hbr.trans (hb2.mono hbr.size)));clear HF HNO;(go_wp2_with fail);go_roundw
    case rel=>exact⟨i+1,by omega,by go_num,HP.out.1,HP.out.2⟩
    case measure=>simp [intOf];omega
  ·obtain rfl:i=n:=by omega
   have hpst:IdxPostM p l w (.returned (.int .i64 (-1))) wr:=⟨.inr ⟨fun x hx=>by
    obtain⟨m,hm,rfl⟩:=List.mem_iff_getElem.1 hx;exact HNO.out m hm (by have:=HL.out;omega),rfl⟩,hbr⟩
   have HP:=zH hpst;clear hpst;(go_wp2_with fail);go_ret;exact HP.out
theorem conR_any (p:MkE→Bool)(C:World→Prop)(hC:∀W W',C W→W.grownBy W' none→C W')(w:World)(v:Value)(g:Nat)(l:List MkE)(hv:SlV w 6 eCM v l)(hn:l.length≤1000000)(h0:C w)
  (hcall:∀W x,x∈l→C W→Calls Tryz.prog 51 #[.agg (eCM x).toArray,.pointer (some ⟨g,0,none⟩)] W fun e w'=>e= .returned (.bool (p x))∧Below W.heap.size W w'):
  Calls Tryz.prog 54 #[v,.func (.func 51) #[] #[.pointer (some ⟨g,0,none⟩)]] w fun e w'=>e= .returned (.bool (l.any p))∧Below w.heap.size w w':=by
 obtain⟨A,c,rfl,_,_,hsl⟩:=hv;have HI:=zH (idxR_any p C hC w A l.length c g l rfl hn hsl h0 hcall);clear hsl h0 hcall hC;generalize hz:l.length=n at*;have HZ:=zH hz;clear hz;go_enter Tryz.func54,Tryz.ntmps54
 go_wp2_with fail
 refine HI.out.mono ?_;rintro e w1 ⟨⟨i,hi,_,hp,rfl⟩ | ⟨hno,rfl⟩,hb⟩
 ·have h1:l.any p=true:=List.any_eq_true.2 ⟨l[i],zP hi,hp⟩;have H1:=zH (zA h1 hb);have hi0:(0:Int)≤i:=by omega
  clear h1 hb HI hp;go_wp2_with fail
  go_ret;exact⟨by rw[H1.out.1];rfl,H1.out.2⟩
 ·have h1:l.any p=false:=by
   rw[Bool.eq_false_iff];intro h;obtain⟨m,hm,hp⟩:=List.any_eq_true.1 h;have h2:=hno m hm;rw[h2] at hp;cases hp
  have H1:=zH (zA h1 hb);clear h1 hb HI hno;go_wp2_with fail
  go_ret;exact⟨by rw[H1.out.1];rfl,H1.out.2⟩
end Go.Proofs.YtnpehjgnplaabaaGreatDoor
namespace Sw
open Go
def fineP (p:Pr):Bool:=
 if p.kind=0 then decide (p=⟨0,0,0,0,0⟩)
 else if p.kind=2 then decide (0≤p.mode∧p.mode≤511)&&((p.time==0)&&((p.size==0)&&(p.sum==0)))
 else if p.kind=1 then decide (0≤p.mode∧p.mode≤511)&&(decide (splitD p.time).Ok&&(decide (0≤p.size)&&(decide (p.size≤65000)&&(decide (0<p.size)||(p.sum==0)))))
 else false
end Sw
namespace Go.Proofs.YtnpehjgnplaabaaGreatDoor
open Go Go.RowKit
open Sw
theorem nodeFine_any (w:World)(p:Pr)(ht0:0≤p.time)(ht1:p.time<4294967296):
  Calls Tryz.prog 88 #[.agg p.c] w fun e w'=>e= .returned (.bool (fineP p))∧Below w.heap.size w w':=by
 obtain⟨kd,md,tm,sz,sm⟩:=p;simp only at ht0 ht1;have hb0:=(zR w.heap.size w).alloc (zN _) (.cells #[.int .i64 kd,.int .i64 md,.int .u32 tm,.int .i64 sz,.int .u32 sm] 61);have hB0:=Blk.new w 61 #[.int .i64 kd,.int .i64 md,.int .u32 tm,.int .i64 sz,.int .u32 sm];have HB:=zH (zA hb0 hB0);clear hb0 hB0;have HM:=zH (fun W=>nodeMode_any W md);have HD:=zH (fun W=>dosRight_any W tm ht0 ht1);clear ht0 ht1;unfold Pr.c;by_cases k0:kd=0
 ·subst k0;have hq:=fun W=>eq_print ⟨0,md,tm,sz,sm⟩ ⟨0,0,0,0,0⟩ W
  have hF:fineP ⟨0,md,tm,sz,sm⟩=decide ((⟨0,md,tm,sz,sm⟩:Pr)=⟨0,0,0,0,0⟩):=rfl;rw[hF];clear hF HM HD;generalize decide ((⟨0,md,tm,sz,sm⟩:Pr)=⟨0,0,0,0,0⟩)=R at*;unfold Pr.c at hq;go_enter Tryz.func88,Tryz.ntmps88
  go_wp2_with fail
  go_ret;exact⟨rfl,HB.out.1⟩
 have e0:(kd==0)=false:=by rw[zB];exact k0
 by_cases k2:kd=2
 ·subst k2;have hF:fineP ⟨2,md,tm,sz,sm⟩=(decide (0≤md∧md≤511)&&((tm==0)&&((sz==0)&&(sm==0)))):=rfl;rw[hF];clear hF HD k0 e0;generalize decide (0≤md∧md≤511)=R at*;obtain⟨q1,hq1⟩:∃q,(tm==0)=q:=⟨_,rfl⟩;obtain⟨q2,hq2⟩:∃q,(sz==0)=q:=⟨_,rfl⟩;obtain⟨q3,hq3⟩:∃q,(sm==0)=q:=⟨_,rfl⟩;rw[hq1,hq2,hq3];cases R
  ·go_enter Tryz.func88,Tryz.ntmps88
   (go_wp2_with fail);refine(HM.out _).mono ?_;rintro e w1 ⟨rfl,rfl⟩;(go_wp2_with fail);go_ret;exact⟨rfl,HB.out.1⟩
  cases q1
  ·go_enter Tryz.func88,Tryz.ntmps88
   (go_wp2_with fail);refine(HM.out _).mono ?_;rintro e w1 ⟨rfl,rfl⟩;(go_wp2_with fail);go_ret;exact⟨rfl,HB.out.1⟩
  cases q2
  ·go_enter Tryz.func88,Tryz.ntmps88
   (go_wp2_with fail);refine(HM.out _).mono ?_;rintro e w1 ⟨rfl,rfl⟩;(go_wp2_with fail);go_ret;exact⟨rfl,HB.out.1⟩
  ·go_enter Tryz.func88,Tryz.ntmps88
   (go_wp2_with fail);refine(HM.out _).mono ?_;rintro e w1 ⟨rfl,rfl⟩;(go_wp2_with fail);go_ret;exact⟨rfl,HB.out.1⟩
 have e2:(kd==2)=false:=by rw[zB];exact k2
 by_cases k1:kd=1
 ·subst k1;have hF:fineP ⟨1,md,tm,sz,sm⟩=(decide (0≤md∧md≤511)&&(decide (splitD tm).Ok&&(decide (0≤sz)&&(decide (sz≤65000)&&(decide (0<sz)||(sm==0)))))):=rfl;rw[hF];clear hF k0 e0 k2 e2;generalize decide (0≤md∧md≤511)=R at*;generalize decide (splitD tm).Ok=T at*;obtain⟨q3,hq3⟩:∃q,(sm==0)=q:=⟨_,rfl⟩;rw[hq3];cases R
  ·go_enter Tryz.func88,Tryz.ntmps88
   (go_wp2_with fail);refine(HM.out _).mono ?_;rintro e w1 ⟨rfl,rfl⟩;(go_wp2_with fail);go_ret;exact⟨rfl,HB.out.1⟩
  cases T
  ·go_enter Tryz.func88,Tryz.ntmps88
   (go_wp2_with fail);refine(HM.out _).mono ?_;rintro e w1 ⟨rfl,rfl⟩;(go_wp2_with fail);refine(HD.out _).mono ?_;rintro e w2 ⟨rfl,hb⟩;have H2:=zH (HB.out.1.trans (hb.mono HB.out.1.size));clear hb;(go_wp2_with fail);go_ret;exact⟨rfl,H2.out⟩
  by_cases s0:0≤sz
  ·rw[zE s0];by_cases s1:sz≤65000
   ·rw[zE s1];by_cases s2:0<sz
    ·rw[zE s2];(go_enter Tryz.func88,Tryz.ntmps88);(go_wp2_with fail);refine(HM.out _).mono ?_;rintro e w1 ⟨rfl,rfl⟩;(go_wp2_with fail);refine(HD.out _).mono ?_;rintro e w2 ⟨rfl,hb⟩;have hB2:=HB.out.2.below hb HB.out.2.lt;have x3:=hB2.cell 3;have x4:=hB2.cell 4;(simp at x3 x4);have H2:=zH (HB.out.1.trans (hb.mono HB.out.1.size));clear hb hB2;(go_wp2_with fail);go_ret;exact⟨rfl,H2.out⟩
    ·rw[zD s2];cases q3
     ·(go_enter Tryz.func88,Tryz.ntmps88);(go_wp2_with fail);refine(HM.out _).mono ?_;rintro e w1 ⟨rfl,rfl⟩;(go_wp2_with fail);refine(HD.out _).mono ?_;rintro e w2 ⟨rfl,hb⟩;have hB2:=HB.out.2.below hb HB.out.2.lt;have x3:=hB2.cell 3;have x4:=hB2.cell 4;(simp at x3 x4);have H2:=zH (HB.out.1.trans (hb.mono HB.out.1.size));clear hb hB2;(go_wp2_with fail);go_ret;first | exact⟨rfl,H2.out⟩ | (refine⟨?_,H2.out⟩;show Ending.returned (.bool (decide (0<sz)))=_;rw[zD (by omega)];rfl)
     ·(go_enter Tryz.func88,Tryz.ntmps88);(go_wp2_with fail);refine(HM.out _).mono ?_;rintro e w1 ⟨rfl,rfl⟩;(go_wp2_with fail);refine(HD.out _).mono ?_;rintro e w2 ⟨rfl,hb⟩;have hB2:=HB.out.2.below hb HB.out.2.lt;have x3:=hB2.cell 3;have x4:=hB2.cell 4;(simp at x3 x4);have H2:=zH (HB.out.1.trans (hb.mono HB.out.1.size));clear hb hB2;(go_wp2_with fail);go_ret;first | exact⟨rfl,H2.out⟩ | (refine⟨?_,H2.out⟩;show Ending.returned (.bool (decide (0<sz)))=_;rw[zD (by omega)];rfl)
   ·rw[zD s1];(go_enter Tryz.func88,Tryz.ntmps88);(go_wp2_with fail);refine(HM.out _).mono ?_;rintro e w1 ⟨rfl,rfl⟩;(go_wp2_with fail);refine(HD.out _).mono ?_;rintro e w2 ⟨rfl,hb⟩;have hB2:=HB.out.2.below hb HB.out.2.lt;have x3:=hB2.cell 3;have x4:=hB2.cell 4;(simp at x3 x4);have H2:=zH (HB.out.1.trans (hb.mono HB.out.1.size));clear hb hB2;(go_wp2_with fail);go_ret;exact⟨rfl,H2.out⟩
  ·rw[zD s0];go_enter Tryz.func88,Tryz.ntmps88
   (go_wp2_with fail);refine(HM.out _).mono ?_;rintro e w1 ⟨rfl,rfl⟩;(go_wp2_with fail);refine(HD.out _).mono ?_;rintro e w2 ⟨rfl,hb⟩;have hB2:=HB.out.2.below hb HB.out.2.lt;have x3:=hB2.cell 3;have x4:=hB2.cell 4;(simp at x3 x4);have H2:=zH (HB.out.1.trans (hb.mono HB.out.1.size));clear hb hB2;(go_wp2_with fail);go_ret;exact⟨rfl,H2.out⟩
 have e1:(kd==1)=false:=by rw[zB];exact k1
 have hF:fineP ⟨kd,md,tm,sz,sm⟩=false:=by unfold fineP;simp only;rw[if_neg k0,if_neg k2,if_neg k1]
 rw[hF];clear hF;go_enter Tryz.func88,Tryz.ntmps88
 go_wp2_with fail
 go_ret;exact⟨rfl,HB.out.1⟩
end Go.Proofs.YtnpehjgnplaabaaGreatDoor
namespace Sw
open Go
def okI (L:List MkE) (i:Nat):Bool:=
 match L[i]?with
 | none=>true
 | some m=>rightL m.1.data.toList&&(fineP m.2&&(!decide (m.2.kind=0)&&(match i with
  | 0=>true
  | j+1=>match L[j]?with
   | none=>true
   | some m'=>decide (ordS m'.1 m.1= -1))))
def risesM (L:List MkE):Bool:=(List.range L.length).all (okI L)
def rightM (l1 l2:List MkE):Bool:=risesM l1&&(risesM l2&& !(l2.any fun m=>(findM l1 m.1).isSome))
theorem risesM_no {L:List MkE}{i:Nat}(hi:i<L.length)(h:okI L i=false):risesM L=false:=by
 unfold risesM;rw[List.all_eq_false];exact⟨i,List.mem_range.2 hi,by rw[h];decide⟩
theorem risesM_yes {L:List MkE}(h:∀i,i<L.length→okI L i=true):risesM L=true:=by
 unfold risesM;rw[List.all_eq_true];exact fun i hi=>h i (List.mem_range.1 hi)
theorem okI_zero {L:List MkE}{m:MkE}(h:L[0]? =some m):okI L 0=(rightL m.1.data.toList&&(fineP m.2&&(!decide (m.2.kind=0)&&true))):=by
 unfold okI;rw[h]
theorem okI_succ {L:List MkE}{m m':MkE}{j:Nat}(h:L[j+1]? =some m)(h':L[j]? =some m'):okI L (j+1)=(rightL m.1.data.toList&&(fineP m.2&&(!decide (m.2.kind=0)&&decide (ordS m'.1 m.1= -1)))):=by
 unfold okI;rw[h];simp only;rw[h']
end Sw
namespace Go.Proofs.YtnpehjgnplaabaaGreatDoor
open Go Go.RowKit
open Sw
def MkInA (m:MkE):Prop:=m.1.size≤90000∧0≤m.2.time∧m.2.time<4294967296
theorem archOrd_any (w:World)(x y:MkE)(hx:x.1.size≤90000)(hy:y.1.size≤90000):
  Calls Tryz.prog 89 #[.agg (eCM x).toArray,.agg (eCM y).toArray] w fun e w'=>e= .returned (.int .i64 (ordS x.1 y.1))∧Below w.heap.size w w':=by
 obtain⟨p,px⟩:=x;obtain⟨q,qx⟩:=y;simp only at hx hy;have hb0:Below w.heap.size w ((w.alloc (.cells (eCM (p,px)).toArray 63)).alloc (.cells (eCM (q,qx)).toArray 63)):=((zR _ _).alloc (zN _) _).alloc (by simp) _;have HO:=zH (order_any ((w.alloc (.cells (eCM (p,px)).toArray 63)).alloc (.cells (eCM (q,qx)).toArray 63)) p q (by omega) (by omega));have HB:=zH hb0;clear hb0;simp only[eCM] at*;generalize ordS p q=r at*;go_enter Tryz.func89,Tryz.ntmps89
 go_wp2_with fail
 refine HO.out.mono ?_;rintro e w2 ⟨rfl,hb2⟩;go_wp2_with fail
 go_ret;exact⟨rfl,HB.out.trans (hb2.mono HB.out.size)⟩
theorem archRises_any (w:World)(u:Value)(L:List MkE)(h:SlV w 6 eCM u L)(hn:L.length≤1000)(hin:∀m∈L,MkInA m):
  Calls Tryz.prog 53 #[u] w fun e w'=>e= .returned (.bool (risesM L))∧Below w.heap.size w w':=by
 have HS:=zH (zA h hin);clear hin;obtain⟨A,c,rfl,_,_,_⟩:=h;obtain⟨n,hn2⟩:∃n,L.length=n:=⟨_,rfl⟩;rw[hn2] at HS hn⊢;have HL:=zH hn2;clear hn2;have HNO:=zH (fun i (hi:i<L.length)=>risesM_no hi);have HYES:=zH (fun(hy:∀i,i<L.length→okI L i=true)=>risesM_yes hy);generalize risesM L=RES at*;go_enter Tryz.func53,Tryz.ntmps53
 go_wp2_with fail
 go_loopw [7] (fun iv wr=>∃i:Nat,i≤n∧iv= .int .i64 i∧(∀j,j<i→okI L j=true)∧Below w.heap.size w wr) (fun iv _=>n-(intOf iv).toNat)
 case atStart=>exact⟨0,Nat.zero_le _,rfl,fun j hj=>by omega,zR _ _⟩
 case round=>
  obtain⟨i,hi,rfl,hok,hb⟩:=hrel;have HOK:=zH hok;clear hok;have hslr:=HS.out.1.below hb (zN _);by_cases hlt:i<n
  ·have hiL:i<L.length:=by have:=HL.out;omega
   obtain⟨A',c',hA,_,_,hso⟩:=hslr;(obtain⟨rfl,rfl⟩:A=A'∧c=c':=by injection hA with e1 e2 e3;exact⟨e1,e3⟩);clear hA;obtain⟨b,off,rfl,hbb,hcs⟩:=hso (by omega);obtain⟨c0,c1,c2⟩:=zs3 (hcs i hiL);have c3':=hcs i hiL 3 (by omega);have c4:=hcs i hiL 4 (by omega);have c5:=hcs i hiL 5 (by omega);simp only[eCM,qB,qC,Nat.add_zero] at c0 c1 c2 c3' c4 c5;have HCS:=zH (zA hbb hcs);clear hcs hso hbb;(have hi1:(i:Int)<n:=by omega);have hmi:=HS.out.2 _ (zP hiL);have hLi:=zM hiL;obtain⟨⟨q,⟨kd,md,tm,sz,sm⟩⟩,hx⟩:∃x,L[i]=x:=⟨_,rfl⟩;simp only[hx] at c0 c1 c2 c3' c4 c5 hmi hLi;clear hx;have HLI:=zH hLi;clear hLi;obtain⟨W0,hW0⟩:∃W0,wr.alloc (.cells #[.string q,.int .i64 kd,.int .i64 md,.int .u32 tm,.int .i64 sz,.int .u32 sm] 63)=W0:=⟨_,rfl⟩;(have hba:Below wr.heap.size wr W0:=by rw[←hW0];exact(zR _ _).alloc (zN _) _);(have hB0:Blk W0 wr.heap.size 63 #[.string q,.int .i64 kd,.int .i64 md,.int .u32 tm,.int .i64 sz,.int .u32 sm]:=by rw[←hW0];exact Blk.new _ _ _);obtain⟨G,hG⟩:∃G,wr.heap.size=G:=⟨_,rfl⟩;have H0:=zH (zA hW0 (zA hba (zA hb (zA hB0 hG))));rw[hG] at hB0;have hGl:=hB0.lt;obtain⟨hq0,ht0,ht1⟩:=hmi;simp only at hq0 ht0 ht1;have HRR:=zH (fun m:Held (Aft W0)=>right_any (HeldW m) q (by omega));have HFI:=zH (fun m:Held (Aft W0)=>nodeFine_any (HeldW m) ⟨kd,md,tm,sz,sm⟩ ht0 ht1);have HQ:=zH hq0;unfold Pr.c at HFI;obtain⟨R,hR⟩:∃R,rightL q.data.toList=R:=⟨_,rfl⟩;obtain⟨F,hF⟩:∃F,fineP ⟨kd,md,tm,sz,sm⟩=F:=⟨_,rfl⟩;rw[hR] at HRR;rw[hF] at HFI;have HRF:=zH (zA hR hF);(have k0:∀m:Held (Aft W0),(HeldW m).cell? ⟨G,0,none⟩=some (.string q):=fun m=>(Aft.cell m hGl).trans (by have:=hB0.cell 0;simpa using this));(have k1:∀m:Held (Aft W0),(HeldW m).cell? ⟨G,1,none⟩=some (.int .i64 kd):=fun m=>(Aft.cell m hGl).trans (by have:=hB0.cell 1;simpa using this));(have k2:∀m:Held (Aft W0),(HeldW m).cell? ⟨G,2,none⟩=some (.int .i64 md):=fun m=>(Aft.cell m hGl).trans (by have:=hB0.cell 2;simpa using this));(have k3:∀m:Held (Aft W0),(HeldW m).cell? ⟨G,3,none⟩=some (.int .u32 tm):=fun m=>(Aft.cell m hGl).trans (by have:=hB0.cell 3;simpa using this));(have k4:∀m:Held (Aft W0),(HeldW m).cell? ⟨G,4,none⟩=some (.int .i64 sz):=fun m=>(Aft.cell m hGl).trans (by have:=hB0.cell 4;simpa using this));(have k5:∀m:Held (Aft W0),(HeldW m).cell? ⟨G,5,none⟩=some (.int .u32 sm):=fun m=>(Aft.cell m hGl).trans (by have:=hB0.cell 5;simpa using this));clear hba hb hB0 hq0 ht0 ht1 hR hF hGl hW0;(go_upto_region 4 with fail);rw[H0.out.1];clear c0 c1 c2 c3' c4 c5
   haveI:=Aft.some W0
   cases R with
   | false=>
    refine wp_region_class (Aft W0) (by kernel_rfl) (by kernel_rfl) (Aft.start W0) ?_;(repeat (go_big_quiet_step (first | with_reducible exact held_below Aft.keep (HRR.out _))));refine wpQuiet_nil ?_;rintro _ ⟨nn,rfl⟩;have HW:=zH (H0.out.2.2.1.trans ((H0.out.2.1.trans ((HeldW_spec nn:Below W0.heap.size W0 (HeldW nn)).mono H0.out.2.1.size)).mono H0.out.2.2.1.size));have hoki:okI L i=false:=by
     cases i with
     | zero=>rw[okI_zero HLI.out];simp [HRF.out.1]
     | succ j=>
      (have hjL:j<L.length:=by omega);rw[okI_succ HLI.out (zM hjL)];simp [HRF.out.1]
    have hres:=HNO.out i (by have:=HL.out;omega) hoki;have HRES:=zH hres;clear hres hoki k0 k1 k2 k3 k4 k5;(go_wp2_with fail);go_ret;exact⟨by rw[HRES.out];rfl,HW.out⟩
   | true=>
    cases F with
    | false=>
     refine wp_region_class (Aft W0) (by kernel_rfl) (by kernel_rfl) (Aft.start W0) ?_;(repeat (go_big_quiet_step (first | with_reducible exact held_below Aft.keep (HRR.out _) | with_reducible exact held_below Aft.keep (HFI.out _))));refine wpQuiet_nil ?_;rintro _ ⟨nn,rfl⟩;have HW:=zH (H0.out.2.2.1.trans ((H0.out.2.1.trans ((HeldW_spec nn:Below W0.heap.size W0 (HeldW nn)).mono H0.out.2.1.size)).mono H0.out.2.2.1.size));have hoki:okI L i=false:=by
      cases i with
      | zero=>rw[okI_zero HLI.out];simp [HRF.out.1,HRF.out.2]
      | succ j=>
       (have hjL:j<L.length:=by omega);rw[okI_succ HLI.out (zM hjL)];simp [HRF.out.1,HRF.out.2]
     have hres:=HNO.out i (by have:=HL.out;omega) hoki;have HRES:=zH hres;clear hres hoki k0 k1 k2 k3 k4 k5;(go_wp2_with fail);go_ret;exact⟨by rw[HRES.out];rfl,HW.out⟩
    | true=>
     by_cases hk:kd=0
     ·subst hk;refine wp_region_class (Aft W0) (by kernel_rfl) (by kernel_rfl) (Aft.start W0) ?_;(repeat (go_big_quiet_step (first | with_reducible exact held_below Aft.keep (HRR.out _) | with_reducible exact held_below Aft.keep (HFI.out _))));refine wpQuiet_nil ?_;rintro _ ⟨nn,rfl⟩;have HW:=zH (H0.out.2.2.1.trans ((H0.out.2.1.trans ((HeldW_spec nn:Below W0.heap.size W0 (HeldW nn)).mono H0.out.2.1.size)).mono H0.out.2.2.1.size));have hoki:okI L i=false:=by
       cases i with
       | zero=>rw[okI_zero HLI.out];simp [HRF.out.1,HRF.out.2]
       | succ j=>
        (have hjL:j<L.length:=by omega);rw[okI_succ HLI.out (zM hjL)];simp [HRF.out.1,HRF.out.2]
      have hres:=HNO.out i (by have:=HL.out;omega) hoki;have HRES:=zH hres;clear hres hoki k0 k1 k2 k3 k4 k5;(go_wp2_with fail);go_ret;exact⟨by rw[HRES.out];rfl,HW.out⟩
     ·(have ek:(kd==0)=false:=by rw[zB];exact hk);have HK:=zH hk;clear hk;cases i with
      | zero=>
       refine wp_region_class (Aft W0) (by kernel_rfl) (by kernel_rfl) (Aft.start W0) ?_;(repeat (go_big_quiet_step (first | with_reducible exact held_below Aft.keep (HRR.out _) | with_reducible exact held_below Aft.keep (HFI.out _))));refine wpQuiet_nil ?_;rintro _ ⟨nn,rfl⟩;have HW:=zH (H0.out.2.2.1.trans ((H0.out.2.1.trans ((HeldW_spec nn:Below W0.heap.size W0 (HeldW nn)).mono H0.out.2.1.size)).mono H0.out.2.2.1.size));have hoki:okI L 0=true:=by
        rw[okI_zero HLI.out,HRF.out.1,HRF.out.2,zD HK.out];rfl
       have HOK2:=zH (show∀t,t<0+1→okI L t=true from fun t ht=>by
        by_cases e:t=0
        ·rw[e];exact hoki
        ·exact HOK.out t (by omega))
       clear hoki k0 k1 k2 k3 k4 k5;(go_wp2_with fail);go_roundw
       case rel=>exact⟨0+1,by omega,by go_num,HOK2.out,HW.out⟩
       case measure=>simp [intOf];omega
      | succ j=>
       (have hjL:j<L.length:=by omega);obtain⟨d0,d1,d2,d3,d4,d5⟩:=zs6 (HCS.out.2 j hjL);have hmj:=(HS.out.2 _ (zP hjL)).1;have hLj:=zM hjL;obtain⟨⟨q',⟨kd',md',tm',sz',sm'⟩⟩,hx⟩:∃x,L[j]=x:=⟨_,rfl⟩;simp only[hx] at d0 d1 d2 d3 d4 d5 hmj hLj;simp only[eCM,qB,qC,Nat.add_zero] at d0 d1 d2 d3 d4 d5;clear hx;have HLJ:=zH hLj;clear hLj;(have hbl:b<W0.heap.size:=by have:=HCS.out.1;have:=H0.out.2.1.size;omega);(have j0:∀m:Held (Aft W0),(HeldW m).cell? ⟨b,off+j*6,none⟩=some (.string q'):=fun m=>(Aft.cell m hbl).trans ((H0.out.2.1.cell (by show b<wr.heap.size;exact HCS.out.1)).trans d0));(have j1:∀m:Held (Aft W0),(HeldW m).cell? ⟨b,off+j*6+1,none⟩=some (.int .i64 kd'):=fun m=>(Aft.cell m hbl).trans ((H0.out.2.1.cell (by show b<wr.heap.size;exact HCS.out.1)).trans d1));(have j2:∀m:Held (Aft W0),(HeldW m).cell? ⟨b,off+j*6+2,none⟩=some (.int .i64 md'):=fun m=>(Aft.cell m hbl).trans ((H0.out.2.1.cell (by show b<wr.heap.size;exact HCS.out.1)).trans d2));(have j3:∀m:Held (Aft W0),(HeldW m).cell? ⟨b,off+j*6+3,none⟩=some (.int .u32 tm'):=fun m=>(Aft.cell m hbl).trans ((H0.out.2.1.cell (by show b<wr.heap.size;exact HCS.out.1)).trans d3));(have j4:∀m:Held (Aft W0),(HeldW m).cell? ⟨b,off+j*6+4,none⟩=some (.int .i64 sz'):=fun m=>(Aft.cell m hbl).trans ((H0.out.2.1.cell (by show b<wr.heap.size;exact HCS.out.1)).trans d4));(have j5:∀m:Held (Aft W0),(HeldW m).cell? ⟨b,off+j*6+5,none⟩=some (.int .u32 sm'):=fun m=>(Aft.cell m hbl).trans ((H0.out.2.1.cell (by show b<wr.heap.size;exact HCS.out.1)).trans d5));have HOR:=zH (fun m:Held (Aft W0)=>archOrd_any (HeldW m) (q',⟨kd',md',tm',sz',sm'⟩) (q,⟨kd,md,tm,sz,sm⟩) hmj HQ.out);simp only[eCM] at HOR;(have hwj:IntKind.i64.wrap ((j:Int)+1-1)=j:=by rw[show(j:Int)+1-1=j by omega];exact IntWalk.i64_in _ (by omega));(have hj0:(j:Int)<n:=by omega);have hnn:=ordS_three q' q;clear d0 d1 d2 d3 d4 d5 hbl hmj;by_cases ho:ordS q' q= -1
       ·have HO:=zH ho;rw[ho] at HOR;clear ho hnn;refine wp_region_class (Aft W0) (by kernel_rfl) (by kernel_rfl) (Aft.start W0) ?_;(repeat (go_big_quiet_step (first | with_reducible exact held_below Aft.keep (HRR.out _) | with_reducible exact held_below Aft.keep (HFI.out _) | with_reducible exact held_below Aft.keep (HOR.out _))));refine wpQuiet_nil ?_;rintro _ ⟨nn,rfl⟩;have HW:=zH (H0.out.2.2.1.trans ((H0.out.2.1.trans ((HeldW_spec nn:Below W0.heap.size W0 (HeldW nn)).mono H0.out.2.1.size)).mono H0.out.2.2.1.size));have hoki:okI L (j+1)=true:=by
         rw[okI_succ HLI.out HLJ.out,HRF.out.1,HRF.out.2,zD HK.out,zE HO.out];rfl
        have HOK2:=zH (show∀t,t<(j+1)+1→okI L t=true from fun t ht=>by
         by_cases e:t=(j+1)
         ·rw[e];exact hoki
         ·exact HOK.out t (by omega))
        clear hoki k0 k1 k2 k3 k4 k5 j0 j1 j2 j3 j4 j5;(go_wp2_with fail);go_roundw
        case rel=>exact⟨(j+1)+1,by omega,by go_num,HOK2.out,HW.out⟩
        case measure=>simp [intOf];omega
       ·have HO:=zH ho;obtain⟨r,hr⟩:∃r,ordS q' q=r:=⟨_,rfl⟩;(have hr0:0≤r:=by rw[←hr];omega);rw[hr] at HOR;clear ho hnn hr;refine wp_region_class (Aft W0) (by kernel_rfl) (by kernel_rfl) (Aft.start W0) ?_;(repeat (go_big_quiet_step (first | with_reducible exact held_below Aft.keep (HRR.out _) | with_reducible exact held_below Aft.keep (HFI.out _) | with_reducible exact held_below Aft.keep (HOR.out _))));refine wpQuiet_nil ?_;rintro _ ⟨nn,rfl⟩;have HW:=zH (H0.out.2.2.1.trans ((H0.out.2.1.trans ((HeldW_spec nn:Below W0.heap.size W0 (HeldW nn)).mono H0.out.2.1.size)).mono H0.out.2.2.1.size));have hoki:okI L (j+1)=false:=by
         rw[okI_succ HLI.out HLJ.out,HRF.out.1,HRF.out.2,zD HK.out,zD HO.out];rfl
        have hres:=HNO.out (j+1) (by have:=HL.out;omega) hoki;have HRES:=zH hres;clear hres hoki k0 k1 k2 k3 k4 k5 j0 j1 j2 j3 j4 j5;(go_wp2_with fail);go_ret;exact⟨by rw[HRES.out];rfl,HW.out⟩
  ·obtain rfl:i=n:=by omega
   have HB:=zH hb;clear hb hslr;have hres:=HYES.out (fun j hj=>HOK.out j (by have:=HL.out;omega));have HRES:=zH hres;clear hres;(go_wp2_with fail);go_ret;exact⟨by rw[HRES.out];rfl,HB.out⟩
theorem archRight_any (w:World)(u1 u2:Value)(l1 l2:List MkE)(h1:SlV w 6 eCM u1 l1)(h2:SlV w 6 eCM u2 l2)(hn1:l1.length≤1000)(hn2:l2.length≤1000)(hin1:∀m∈l1,MkInA m)(hin2:∀m∈l2,MkInA m):
  Calls Tryz.prog 25 #[.agg #[u1,u2]] w fun e w'=>e= .returned (.bool (rightM l1 l2))∧Below w.heap.size w w':=by
 obtain⟨W,hW⟩:∃W,w.alloc (.cells #[u1,u2] 24)=W:=⟨_,rfl⟩;have hb0:Below w.heap.size w W:=by rw[←hW];exact(zR _ w).alloc (zN _) _
 have hB0:Blk W w.heap.size 24 #[u1,u2]:=by rw[←hW];exact Blk.new w _ _
 have HR1:=zH (archRises_any W u1 l1 (h1.below hb0 (zN _)) hn1 hin1);have HR2:=zH (fun W' (hb:Below w.heap.size w W')=>archRises_any W' u2 l2 (h2.below hb (zN _)) hn2 hin2);have HC:=zH (fun W' (hb:Below w.heap.size w W') (hB:Blk W' w.heap.size 24 #[u1,u2])=>conR_any (fun m=>(findM l1 m.1).isSome) (fun V=>Blk V w.heap.size 24 #[u1,u2]∧Below w.heap.size w V) (fun V V' h hg=>⟨h.1.grown hg (by simp),h.2.grown hg h.2.size (fun k hk=>by cases hk)⟩) W' u2 w.heap.size l2 (h2.below hb (zN _)) (by omega) ⟨hB,hb⟩ (fun V x hx hV=>by
  obtain⟨q,⟨kd,md,tm,sz,sm⟩⟩:=x;have hba:=(zR V.heap.size V).alloc (zN _) (.cells #[.string q,.int .i64 kd,.int .i64 md,.int .u32 tm,.int .i64 sz,.int .u32 sm] 63);have hH:=archHas_any (V.alloc (.cells #[.string q,.int .i64 kd,.int .i64 md,.int .u32 tm,.int .i64 sz,.int .u32 sm] 63)) u1 l1 q (h1.below (hV.2.trans (hba.mono hV.2.size)) (zN _)) (by omega);have HH:=zH hH;have HA:=zH hba;have x0:=hV.1.cell 0;have x1:=hV.1.cell 1;have hlt:=hV.1.lt;simp only[qA,qB,qC] at x0 x1;simp only[eCM];obtain⟨A1,c1,rfl,_,_,_⟩:=h1;obtain⟨A2,c2,rfl,_,_,_⟩:=h2;generalize (findM l1 q).isSome=R at*;generalize l1.length=n1 at*;generalize l2.length=n2 at*;clear hH hba;go_enter Tryz.func51,Tryz.ntmps51
  go_wp2_with fail
  refine HH.out.mono ?_;rintro e V2 ⟨rfl,hb2⟩;have H2:=zH (HA.out.trans (hb2.mono HA.out.size));clear hb2;go_wp2_with fail
  go_ret;exact⟨rfl,H2.out⟩))
 have x0:=hB0.cell 0;have x1:=hB0.cell 1;simp only[qA,qB,qC] at x0 x1;have HW:=zH (zA hW (zA hb0 hB0));clear hW hb0 hB0;rw[show rightM l1 l2=(risesM l1&&(risesM l2&& !(l2.any fun m=>(findM l1 m.1).isSome))) from rfl];obtain⟨A1,c1,rfl,_,_,_⟩:=h1;obtain⟨A2,c2,rfl,_,_,_⟩:=h2;generalize risesM l1=R1 at*;generalize risesM l2=R2 at*;generalize (l2.any fun m=>(findM l1 m.1).isSome)=R3 at*;generalize l1.length=n1 at*;generalize l2.length=n2 at*;go_enter Tryz.func25,Tryz.ntmps25
 go_upto_region 1 with fail
 rw[HW.out.1];go_wp2_with fail
 refine HR1.out.mono ?_;rintro e w1 ⟨rfl,hb1⟩;have hB1:=HW.out.2.2.below hb1 HW.out.2.2.lt;have H1:=zH (zA (HW.out.2.1.trans (hb1.mono HW.out.2.1.size)) hB1);have y1:=hB1.cell 1;simp only[qA,qB,qC] at y1;clear hb1 hB1 x0 x1 HR1;cases R1 with
 | false=>
  go_wp2_with fail
  go_ret;exact⟨rfl,H1.out.1⟩
 | true=>
  go_wp2_with fail
  refine(HR2.out w1 H1.out.1).mono ?_;rintro e w2 ⟨rfl,hb2⟩;have hB2:=H1.out.2.below hb2 H1.out.2.lt;have H2:=zH (zA (H1.out.1.trans (hb2.mono H1.out.1.size)) hB2);have z1:=hB2.cell 1;simp only[qA,qB,qC] at z1;clear hb2 hB2 y1 HR2;cases R2 with
  | false=>
   (go_wp2_with fail);go_ret;exact⟨rfl,H2.out.1⟩
  | true=>
   (go_wp2_with fail);refine(HC.out w2 H2.out.1 H2.out.2).mono ?_;rintro e w3 ⟨rfl,hb3⟩;have H3:=zH (H2.out.1.trans (hb3.mono H2.out.1.size));clear hb3 z1 HC;(go_wp2_with fail);go_ret;exact⟨rfl,H3.out⟩
end Go.Proofs.YtnpehjgnplaabaaGreatDoor
