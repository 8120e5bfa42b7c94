/- Several texts of ours, joined. -/
import Derived.Test.YtnpehjgnplaabaaGreatDoorJoin1
import Derived.Test.YtnpehjgnplaabaaGreatDoorJoin9
import Derived.Test.YtnpehjgnplaabaaGreatDoorJoin5
import Derived.Test.YtnpehjgnplaabaaGreatDoorJoin6
import Derived.Test.YtnpehjgnplaabaaGreatDoorJoin3
import Derived.Test.YtnpehjgnplaabaaGreatDoorJoin4
set_option linter.unusedVariables false
set_option linter.unusedSimpArgs false
set_option maxRecDepth 100000
set_option maxHeartbeats 64000000
namespace Go.Proofs.YtnpehjgnplaabaaGreatDoor
open Go Go.RowKit
open Sw
theorem get_l {β:Type}(P L T:List β)(y:β)(k:Nat)(h:L[k]? =some y):(P++L++T)[P.length+k]? =some y:=by
 rw[zV,List.getElem?_append_right (by omega),show P.length+k-P.length=k by omega,List.getElem?_append_left (List.getElem?_eq_some_iff.1 h).1,h]
theorem mergeRMK_any (cmp:{s:ByteArray//s.size≤90000}×Pr→{s:ByteArray//s.size≤90000}×Pr→Int)(HC:Cmp cmp)(hcall:∀W x y,Calls Tryz.prog 89 #[.agg (eCMK x).toArray,.agg (eCMK y).toArray] W fun e w'=>e= .returned (.int .i64 (cmp x y))∧Below W.heap.size W w')
  (w:World) (base:Nat) (A:Option Addr) (c:Nat) (n a m b:Nat) (P L Q:List eDMK) (x:eDMK) (hn:n≤1000000) (hP:P.length=a) (hL:a+L.length=m) (hL2:2≤L.length) (hm:b=m+1) (hup:UpS cmp L) (hcame:∀q∈L,q.2<x.2) (hbs:base≤w.heap.size)
  (hrow:RowDMK w base (.slice A n c) n (P++L++x::Q)):
  Calls Tryz.prog 221 #[.slice A n c,.int .i64 a,.int .i64 m,.int .i64 b,.func (.func 89) #[] #[]] w (MergePostMK cmp w base A c n P (L++[x]) Q):=by
 have hlen:m+1+Q.length=n:=by rw[←hrow.1,←hL,←hP];simp only[zF,zI];omega
 obtain⟨g,rfl,hbg,cur0,hB0,hgs0⟩:=hrow.form (by omega);have HR0:=zH (zA hrow (zA hup hcame));have HCC:=zH hcall;clear hrow hup hcame hcall hB0;have w0:IntKind.i64.wrap ((m:Int)-a)=m-a:=IntWalk.i64_in _ (by omega);have w00:((m:Int)-a==1)=false:=by rw[zB];omega
 have w1:IntKind.i64.wrap ((b:Int)-m)=1:=by rw[IntWalk.i64_in _ (by omega)];omega
 obtain⟨hm1,hm2⟩:m<b∧b≤m+1:=by omega
 clear hm;go_enter Tryz.func221,Tryz.ntmps221
 go_wp2_with fail
 go_loopw [14,15] (fun iv jv wr=>∃(i j:Nat),iv= .int .i64 i∧jv= .int .i64 j∧a≤i∧i≤j∧j≤m∧(∀z,0<i-a→L[i-a-1]? =some z→Ah cmp z x)∧(∀z,L[j-a]? =some z→Ah cmp x z)∧RowDMK wr base (.slice (some ⟨g,0,none⟩) n c) n (P++L++x::Q)∧Below base w wr∧base≤wr.heap.size) (fun iv jv _=>(intOf jv-intOf iv).toNat)
 case atStart=>
  refine⟨a,m,rfl,rfl,zN _,by omega,zN _,fun z h=>(by omega),fun z h=>?_,HR0.out.1,zR _ _,hbs⟩;have:=(List.getElem?_eq_some_iff.1 h).1;omega
 case round=>
  obtain⟨i,j,rfl,rfl,hmi,hij,hjb,hlo,hhi,hrow,hbl,hbsr⟩:=hrel;have HG:=zH (zA hlo (zA hhi (zA hrow hbl)));clear hlo hhi hrow hbl;by_cases hlt:i<j
  ·have hlt1:(i:Int)<j:=by omega
   obtain⟨h,hh⟩:∃h:Nat,((i:Int)+j)/2=h:=⟨(i+j)/2,by omega⟩;(obtain⟨hih,hhj⟩:i≤h∧h<j:=by omega);obtain⟨y,hy⟩:∃y,L[h-a]? =some y:=⟨_,zM (by omega)⟩;have hyR:y∈L:=List.mem_of_getElem? hy;obtain⟨w2,hw2⟩:∃w2,wr.drew=w2:=⟨_,rfl⟩;have hrow2:=HG.out.2.2.1.drew;rw[hw2] at hrow2;(have hPL:(P++L).length=m:=by rw[zF];omega);(have hgx:(P++L++x::Q)[m]? =some x:=by rw[←hPL];exact mid_get _ _ _);have hgy:(P++L++x::Q)[h]? =some y:=by
    have:=get_l P L (x::Q) y (h-a) hy
    rwa [show P.length+(h-a)=h by omega] at this
   clear hPL;have hcx:=hrow2.cell m x hgx;have hcy:=hrow2.cell h y hgy;have a0:w2.cell? ⟨g,m*6,none⟩=_:=hcx 0 (by omega);have a1:w2.cell? ⟨g,m*6+1,none⟩=_:=hcx 1 (by omega);have a2:w2.cell? ⟨g,m*6+2,none⟩=_:=hcx 2 (by omega);have a3:w2.cell? ⟨g,m*6+3,none⟩=_:=hcx 3 (by omega);have a4:w2.cell? ⟨g,m*6+4,none⟩=_:=hcx 4 (by omega);have a5:w2.cell? ⟨g,m*6+5,none⟩=_:=hcx 5 (by omega);simp only[eCMK,qB,qC] at a0 a1 a2 a3 a4 a5;have b0:w2.cell? ⟨g,h*6,none⟩=_:=hcy 0 (by omega);have b1:w2.cell? ⟨g,h*6+1,none⟩=_:=hcy 1 (by omega);have b2:w2.cell? ⟨g,h*6+2,none⟩=_:=hcy 2 (by omega);have b3:w2.cell? ⟨g,h*6+3,none⟩=_:=hcy 3 (by omega);have b4:w2.cell? ⟨g,h*6+4,none⟩=_:=hcy 4 (by omega);have b5:w2.cell? ⟨g,h*6+5,none⟩=_:=hcy 5 (by omega);simp only[eCMK,qB,qC] at b0 b1 b2 b3 b4 b5;clear hcx hcy;have HCL:=zH (HCC.out w2 x.1 y.1);have HX:=zH (zA hrow2 (zA hy hyR));clear hrow2 hy hyR hgx hgy;(obtain⟨q1,q2,q3⟩:(i:Int)+j≤2000000∧(h:Int)<n∧(m:Int)<n:=by omega);have wh:IntKind.i64.wrap ((h:Int)+1)=h+1:=IntWalk.i64_in _ (by omega);(go_wp2_with fail);refine region_tail 9 (by kernel_rfl) (by kernel_rfl) w2 hw2 ?_;simp only[List.take_succ_cons,List.take_zero,List.drop_succ_cons,List.drop_zero];(repeat (go_big_quiet_step (fail)));refine wpQuiet_nil ?_;(go_wp2_with fail);refine HCL.out.mono ?_;rintro e w3 ⟨rfl,hb3⟩;have hrow3:=HX.out.1.kept hb3;have hbl3:Below base w w3:=by
    (have h1:Below base w w2:=by rw[←hw2];exact HG.out.2.2.2.drew);exact h1.trans (hb3.mono (by rw[←hw2];exact hbsr))
   have hs3:base≤w3.heap.size:=zT hbsr (by have:=hb3.size;rw[←hw2] at this;exact this);have H3:=zH (zA hrow3 (zA hbl3 hs3));clear hb3 hbl3 hrow3 HCL;by_cases hcm:cmp x.1 y.1<0
   ·have hcd:decide (cmp x.1 y.1<0)=true:=zE hcm;(go_wp2_with fail);go_roundw
    case rel=>
     refine⟨i,h,rfl,by go_num,hmi,hih,by omega,HG.out.1,fun z hz=>?_,H3.out.1,H3.out.2.1,H3.out.2.2⟩;rw[HX.out.2.1] at hz;(cases hz);exact .inl hcm
    case measure=>simp [intOf];omega
   ·have hcd:decide (cmp x.1 y.1<0)=false:=zD hcm;(go_wp2_with fail);go_roundw
    case rel=>
     refine⟨h+1,j,by go_num,rfl,by omega,by omega,hjb,fun z _ hz=>?_,HG.out.2.1,H3.out.1,H3.out.2.1,H3.out.2.2⟩;rw[show h+1-a-1=h-a by omega,HX.out.2.1] at hz;(cases hz);exact(Ah.of_left HC (HR0.out.2.2 y HX.out.2.2)).2 (by omega)
    case measure=>simp [intOf];omega
  ·obtain rfl:i=j:=by omega
   clear hlt hij;obtain⟨R1,hR1⟩:∃R1,L.take (i-a)=R1:=⟨_,rfl⟩;obtain⟨R2,hR2⟩:∃R2,L.drop (i-a)=R2:=⟨_,rfl⟩;(have hl1:R1.length=i-a:=by rw[←hR1,zL];omega);(have hl2:R2.length=m-i:=by rw[←hR2,List.length_drop];omega);have HM:=zH (by
    have h1:=UpS.put HC HR0.out.2.1 (i-a) (by omega) HG.out.1 HG.out.2.1;have h2:=put_perm L x (i-a);rw[hR1,hR2] at h1 h2;exact zA h1 h2)
   (have hRR:R1++R2=L:=by rw[←hR1,←hR2,List.take_append_drop]);have HRR:=zH hRR;clear hRR hR1 hR2;(go_wp2_with fail);go_loopw [17] (fun kv wr2=>∃(k:Nat) (V1 V2:List eDMK),kv= .int .i64 k∧V1++V2=R2∧i+V1.length=k∧RowDMK wr2 base (.slice (some ⟨g,0,none⟩) n c) n (P++R1++V1++x::(V2++Q))∧Below base w wr2∧base≤wr2.heap.size) (fun kv _=>(intOf kv).toNat)
   case atStart=>
    refine⟨m,R2,[],rfl,List.append_nil _,by omega,?_,HG.out.2.2.2,hbsr⟩;(have:P++R1++R2++x::([]++Q)=P++L++x::Q:=by rw[←HRR.out];simp);rw[this];exact HG.out.2.2.1
   case round=>
    obtain⟨k,V1,V2,rfl,hVV,hVk,hrow,hbl,hbs2⟩:=hrel;(have hV12:V1.length+V2.length=R2.length:=by rw[←hVV,zF]);have H2:=zH (zA hVV (zA hrow hbl));clear hVV hrow hbl;by_cases hki:i<k
    ·(have hki1:(i:Int)<k:=by omega);obtain⟨V0,y,hV0⟩:∃V0 y,V1=V0++[y]:=⟨V1.dropLast,V1.getLast (by rintro rfl;simp at hVk;omega),(List.dropLast_concat_getLast _).symm⟩;subst hV0;rw[zF,List.length_singleton] at hV12 hVk;obtain⟨k1,hk1⟩:∃k1:Nat,k=k1+1:=⟨k-1,by omega⟩;(have hPV:(P++R1++V0).length=k1:=by rw[zF,zF];omega);(have hform:P++R1++(V0++[y])++x::(V2++Q)=(P++R1++V0)++y::x::(V2++Q):=by simp);have hrowf:=H2.out.2.1;rw[hform] at hrowf;(have hgx:((P++R1++V0)++y::x::(V2++Q))[k]? =some x:=by rw[hk1,←hPV];exact mid_get1 _ _ _ _);(have hgy:((P++R1++V0)++y::x::(V2++Q))[k1]? =some y:=by rw[←hPV];exact mid_get _ _ _);have hcx:=hrowf.cell k x hgx;have hcy:=hrowf.cell k1 y hgy;have a0:wr.cell? ⟨g,k*6,none⟩=_:=hcx 0 (by omega);have a1:wr.cell? ⟨g,k*6+1,none⟩=_:=hcx 1 (by omega);have a2:wr.cell? ⟨g,k*6+2,none⟩=_:=hcx 2 (by omega);have a3:wr.cell? ⟨g,k*6+3,none⟩=_:=hcx 3 (by omega);have a4:wr.cell? ⟨g,k*6+4,none⟩=_:=hcx 4 (by omega);have a5:wr.cell? ⟨g,k*6+5,none⟩=_:=hcx 5 (by omega);simp only[eCMK,qB,qC] at a0 a1 a2 a3 a4 a5;have b0:wr.cell? ⟨g,k1*6,none⟩=_:=hcy 0 (by omega);have b1:wr.cell? ⟨g,k1*6+1,none⟩=_:=hcy 1 (by omega);have b2:wr.cell? ⟨g,k1*6+2,none⟩=_:=hcy 2 (by omega);have b3:wr.cell? ⟨g,k1*6+3,none⟩=_:=hcy 3 (by omega);have b4:wr.cell? ⟨g,k1*6+4,none⟩=_:=hcy 4 (by omega);have b5:wr.cell? ⟨g,k1*6+5,none⟩=_:=hcy 5 (by omega);simp only[eCMK,qB,qC] at b0 b1 b2 b3 b4 b5;obtain⟨g',hge,hbg3,cur3,hB,hgs3⟩:=hrowf.form (by omega);obtain rfl:g=g':=congrArg Addr.block (Option.some.inj hge);have fa0:=hB.frozen (k*6);have fa1:=hB.frozen (k*6+1);have fa2:=hB.frozen (k*6+2);have fa3:=hB.frozen (k*6+3);have fa4:=hB.frozen (k*6+4);have fa5:=hB.frozen (k*6+5);have fb0:=hB.frozen (k1*6);have fb1:=hB.frozen (k1*6+1);have fb2:=hB.frozen (k1*6+2);have fb3:=hB.frozen (k1*6+3);have fb4:=hB.frozen (k1*6+4);have fb5:=hB.frozen (k1*6+5);have HSW:=zH (by
      have h1:=hrowf.swap k k1 x y hgx hgy H2.out.2.2 hbg hbs2;have hls:(((P++R1++V0)++y::x::(V2++Q)).set k y).set k1 x=P++R1++V0++x::(y::V2++Q):=by
       rw[hk1,←hPV,swap_next];simp
      rw[hls] at h1;have h2:base≤((wr.setCells g (k*6) (eCMK y.1)).setCells g (k1*6) (eCMK x.1)).heap.size:=zT hbs2 (grown_setCells (eCMK x.1) (k1*6) _ (grown_setCells (eCMK y.1) (k*6) wr (grown_refl wr (some g)))).size;exact zA h1 h2)
     (have wk:IntKind.i64.wrap ((k:Int)-1)=k1:=by rw[IntWalk.i64_in _ (by omega)];omega);(obtain⟨q2,q3,q4⟩:(k:Int)<n∧(k1:Int)<n∧k≠k1:=by omega);have HK:=zH hk1;clear hcx hcy hB hge hgx hgy hPV hk1 hrowf hform;(go_wp2_with fail);(go_region);all_goals
      (go_wp2_with fail);go_roundw
      case rel=>
       have HSV:=HSW.out;simp only[eCMK,World.setCells,Nat.add_assoc,Nat.reduceAdd] at HSV;have hsz9:=HSV.2;(simp at hsz9);refine⟨k1,V0,y::V2,by go_num,by have:=H2.out.1;simpa using this,by have:=HK.out;omega,?_,?_,by simpa using hsz9⟩
       ·first | exact HSV.1.1.drew | exact HSV.1.1
       ·first | exact HSV.1.2.drew | exact HSV.1.2
      case measure=>simp [intOf];have:=HK.out;omega
    ·obtain rfl:V1=[]:=List.eq_nil_of_length_eq_zero (by omega);(go_wp2_with fail);(go_end0);refine⟨rfl,R1++x::R2,HM.out.2.trans (by have:=List.perm_middle (a:=x) (l₁:=L) (l₂:=[]);rw[List.append_nil] at this;exact this.symm),HM.out.1,?_,H2.out.2.2⟩;have h1:=H2.out.2.1;have h2:=H2.out.1;rw[List.nil_append] at h2;rw[h2] at h1;(have e1:P++R1++[]++x::(R2++Q)=P++(R1++x::R2)++Q:=by simp);rw[e1] at h1;exact h1
theorem RowDMK.rot {w:World}{base n c:Nat}{A:Option Addr}{cv:Value}{P U V Q:List eDMK}{a m b:Nat}(h:RowDMK w base (.slice A n c) n (P++U++V++Q))(hn:n≤1000000)(hP:P.length=a)(hU:a+U.length=m)(hV:m+V.length=b)(hU0:0<U.length)(hV0:0<V.length){a0:World}(hB:Below base a0 w)(hs:base≤w.heap.size):
  Calls Tryz.prog 227 #[.slice A n c,.int .i64 a,.int .i64 m,.int .i64 b,cv] w fun e w'=>e= .returned (.tuple #[])∧RowDMK w' base (.slice A n c) n (P++V++U++Q)∧Below base a0 w'∧base≤w'.heap.size:=by
 have h1:=h.2;simp only[List.map_append] at h1;refine(rotateMK_any w base A c cv n a m b (P.map Prod.fst) (U.map Prod.fst) (V.map Prod.fst) (Q.map Prod.fst) hn (by rw[←h.1];simp) (by simpa using hP) (by simpa using hU) (by simpa using hV) (by simpa using hU0) (by simpa using hV0) h1).mono ?_;rintro e w' ⟨rfl,ho,hg⟩;refine⟨rfl,⟨?_,?_⟩,own_below h1 hB hg (zN _) hs,zT hs hg.size⟩
 ·rw[←h.1];simp only[zF];omega
 ·simp only[List.map_append];exact ho
def ShorterMK (cmp:{s:ByteArray//s.size≤90000}×Pr→{s:ByteArray//s.size≤90000}×Pr→Int) (base:Nat) (A:Option Addr) (c n k:Nat):Prop:=
 ∀(W:World) (a m b:Nat) (P L R Q:List eDMK),L.length+R.length<k→P.length=a→a+L.length=m→m+R.length=b→0<L.length→0<R.length→UpS cmp L→UpS cmp R→Came L R→base≤W.heap.size→RowDMK W base (.slice A n c) n (P++L++R++Q)→
  Calls Tryz.prog 221 #[.slice A n c,.int .i64 a,.int .i64 m,.int .i64 b,.func (.func 89) #[] #[]] W (MergePostMK cmp W base A c n P (L++R) Q)
theorem mergeMMK_any (cmp:{s:ByteArray//s.size≤90000}×Pr→{s:ByteArray//s.size≤90000}×Pr→Int)(HC:Cmp cmp)(hcall:∀W x y,Calls Tryz.prog 89 #[.agg (eCMK x).toArray,.agg (eCMK y).toArray] W fun e w'=>e= .returned (.int .i64 (cmp x y))∧Below W.heap.size W w')
  (w:World) (base:Nat) (A:Option Addr) (c:Nat) (n a m b:Nat) (P L R Q:List eDMK) (hn:n≤1000000) (hP:P.length=a) (hL:a+L.length=m) (hR:m+R.length=b) (hL2:2≤L.length) (hR2:2≤R.length) (hupL:UpS cmp L) (hupR:UpS cmp R) (hcame:Came L R) (hbs:base≤w.heap.size)
  (hrow:RowDMK w base (.slice A n c) n (P++L++R++Q)) (hrec:ShorterMK cmp base A c n (L.length+R.length)):
  Calls Tryz.prog 221 #[.slice A n c,.int .i64 a,.int .i64 m,.int .i64 b,.func (.func 89) #[] #[]] w (MergePostMK cmp w base A c n P (L++R) Q):=by
 have hlen:b+Q.length=n:=by rw[←hrow.1,←hR,←hL,←hP];simp only[zF]
 obtain⟨g,rfl,hbg,cur0,hB0,hgs0⟩:=hrow.form (by omega);have HR0:=zH (zA hrow (zA hupL (zA hupR hcame)));have HCC:=zH hcall;have HREC:=zH hrec;clear hrow hupL hupR hcame hcall hB0 hrec;have w0:IntKind.i64.wrap ((m:Int)-a)=m-a:=IntWalk.i64_in _ (by omega);have w00:((m:Int)-a==1)=false:=by rw[zB];omega
 have w1:IntKind.i64.wrap ((b:Int)-m)=b-m:=IntWalk.i64_in _ (by omega);have w11:((b:Int)-m==1)=false:=by rw[zB];omega
 obtain⟨mid,hmid⟩:∃mid:Nat,((a:Int)+b)/2=mid:=⟨(a+b)/2,by omega⟩;obtain⟨N,hN⟩:∃N:Nat,N=mid+m:=⟨_,rfl⟩;have wN:IntKind.i64.wrap ((mid:Int)+m)=N:=by rw[IntWalk.i64_in _ (by omega)];omega
 obtain⟨p,hp⟩:∃p:Nat,N=p+1:=⟨mid+m-1,by omega⟩;have wp:IntKind.i64.wrap ((N:Int)-1)=p:=by rw[IntWalk.i64_in _ (by omega)];omega
 obtain⟨lo,hlo⟩:∃lo:Nat,lo=N-b:=⟨_,rfl⟩;have wlo:m>mid→IntKind.i64.wrap ((N:Int)-b)=lo:=fun h=>by rw[IntWalk.i64_in _ (by omega)];omega
 obtain⟨hmid1,hmid2⟩:a+b≤2*mid+1∧2*mid≤a+b:=by omega
 have HNE:=zH (zA hN (zA hp (zA hlo wlo)));clear hN hp hlo wlo;have q0:(a:Int)+b≤2000000:=by omega
 go_enter Tryz.func221,Tryz.ntmps221
 go_upto_if 140 with fail
 go_cut [20,21] from 140 to 146 (fun sv rv wx=>∃(i j:Nat),sv= .int .i64 i∧rv= .int .i64 j∧a≤i∧i≤j∧j≤m∧j≤mid∧N≤i+b∧(i=a∨i+b=N)∧(j=m∨j=mid)∧wx=w)
 case first=>
  by_cases hmm:mid<m
  ·have hmm1:(mid:Int)<m:=by omega
   have w4:=HNE.out.2.2.2 hmm;(go_wp2_with fail);(go_meet);exact⟨lo,mid,by go_num,rfl,by have:=HNE.out.1;have:=HNE.out.2.2.1;omega,by have:=HNE.out.1;have:=HNE.out.2.2.1;omega,by omega,zN _,by have:=HNE.out.2.2.1;omega,.inr (by have:=HNE.out.1;have:=HNE.out.2.2.1;omega),.inr rfl,rfl⟩
  ·have hmm1:¬(mid:Int)<m:=by omega
   (go_wp2_with fail);(go_meet);exact⟨a,m,rfl,rfl,zN _,by omega,zN _,by omega,by have:=HNE.out.1;omega,.inl rfl,.inl rfl,rfl⟩
 case rest=>
  obtain⟨i0,j0,rfl,rfl,hai0,hij0,hjm0,hjd0,hNi0,hi0,hj0,rfl⟩:=hcut
  rename World=>w9
  have HI0:=zH (zA hi0 hj0);clear hi0 hj0;go_wp2_with fail
  go_loopw [20,21] (fun iv jv wr=>∃(i j:Nat),iv= .int .i64 i∧jv= .int .i64 j∧a≤i∧i≤j∧j≤m∧j≤mid∧N≤i+b∧(∀y z,L[i-a-1]? =some y→R[mid-i]? =some z→a<i→N<i+b→Ah cmp y z)∧(∀y z,R[mid-j-1]? =some z→L[j-a]? =some y→j<m→j<mid→Ah cmp z y)∧RowDMK wr base (.slice (some ⟨g,0,none⟩) n c) n (P++L++R++Q)∧Below base w9 wr∧base≤wr.heap.size) (fun iv jv _=>(intOf jv-intOf iv).toNat)
  case atStart=>
   refine⟨i0,j0,rfl,rfl,hai0,hij0,hjm0,hjd0,hNi0,fun y z _ _ h1 h2=>?_,fun y z _ _ h1 h2=>?_,HR0.out.1,zR _ _,hbs⟩
   ·rcases HI0.out.1 with h | h<;>omega
   ·rcases HI0.out.2 with h | h<;>omega
  case round=>
   obtain⟨i,j,rfl,rfl,hai,hij,hjm,hjd,hNi,hlo,hhi,hrow,hbl,hbsr⟩:=hrel;have HG:=zH (zA hlo (zA hhi (zA hrow hbl)));clear hlo hhi hrow hbl;by_cases hlt:i<j
   ·(have hlt1:(i:Int)<j:=by omega);obtain⟨h,hh⟩:∃h:Nat,((i:Int)+j)/2=h:=⟨(i+j)/2,by omega⟩;(obtain⟨hih,hhj⟩:i≤h∧h<j:=by omega);obtain⟨d,hd⟩:∃d:Nat,p=d+h:=⟨p-h,by have:=HNE.out.1;have:=HNE.out.2.1;omega⟩;(have hdm:m+(mid-h-1)=d:=by have:=HNE.out.1;have:=HNE.out.2.1;omega);(have wd:IntKind.i64.wrap ((p:Int)-h)=d:=by rw[IntWalk.i64_in _ (by omega)];omega);have hNN:=HNE.out.1;obtain⟨y,hy⟩:∃y,L[h-a]? =some y:=⟨_,zM (by omega)⟩;obtain⟨z,hz⟩:∃z,R[mid-h-1]? =some z:=⟨_,zM (by omega)⟩;(have hdn:d<n:=by omega);have hyL:y∈L:=List.mem_of_getElem? hy;have hzR:z∈R:=List.mem_of_getElem? hz;obtain⟨w2,hw2⟩:∃w2,wr.drew=w2:=⟨_,rfl⟩;have hrow2:=HG.out.2.2.1.drew;rw[hw2] at hrow2;(have hPL:(P++L).length=m:=by rw[zF];omega);have hgy:(P++L++R++Q)[h]? =some y:=by
     have:=get_l P L (R++Q) y (h-a) hy
     rwa [show P.length+(h-a)=h by omega,←zV] at this
    have hgz:(P++L++R++Q)[d]? =some z:=by
     have:=get_l (P++L) R Q z (mid-h-1) hz
     rwa [hPL,hdm] at this
    have hcz:=hrow2.cell d z hgz;have hcy:=hrow2.cell h y hgy;have a0:w2.cell? ⟨g,d*6,none⟩=_:=hcz 0 (by omega);have a1:w2.cell? ⟨g,d*6+1,none⟩=_:=hcz 1 (by omega);have a2:w2.cell? ⟨g,d*6+2,none⟩=_:=hcz 2 (by omega);have a3:w2.cell? ⟨g,d*6+3,none⟩=_:=hcz 3 (by omega);have a4:w2.cell? ⟨g,d*6+4,none⟩=_:=hcz 4 (by omega);have a5:w2.cell? ⟨g,d*6+5,none⟩=_:=hcz 5 (by omega);simp only[eCMK,qB,qC] at a0 a1 a2 a3 a4 a5;have b0:w2.cell? ⟨g,h*6,none⟩=_:=hcy 0 (by omega);have b1:w2.cell? ⟨g,h*6+1,none⟩=_:=hcy 1 (by omega);have b2:w2.cell? ⟨g,h*6+2,none⟩=_:=hcy 2 (by omega);have b3:w2.cell? ⟨g,h*6+3,none⟩=_:=hcy 3 (by omega);have b4:w2.cell? ⟨g,h*6+4,none⟩=_:=hcy 4 (by omega);have b5:w2.cell? ⟨g,h*6+5,none⟩=_:=hcy 5 (by omega);simp only[eCMK,qB,qC] at b0 b1 b2 b3 b4 b5;clear hcz hcy;have HCL:=zH (HCC.out w2 z.1 y.1);have HX:=zH (zA hrow2 (zA hy (zA hz (HR0.out.2.2.2 y hyL z hzR))));clear hrow2 hy hz hyL hzR hgy hgz hPL hd hdm hNN;(obtain⟨q1,q2,q3⟩:(i:Int)+j≤2000000∧(h:Int)<n∧(d:Int)<n:=by omega);have wh:IntKind.i64.wrap ((h:Int)+1)=h+1:=IntWalk.i64_in _ (by omega);(go_wp2_with fail);refine region_tail 11 (by kernel_rfl) (by kernel_rfl) w2 hw2 ?_;simp only[List.take_succ_cons,List.take_zero,List.drop_succ_cons,List.drop_zero];(repeat (go_big_quiet_step (fail)));refine wpQuiet_nil ?_;(go_wp2_with fail);refine HCL.out.mono ?_;rintro e w3 ⟨rfl,hb3⟩;have hrow3:=HX.out.1.kept hb3;have hbl3:Below base w9 w3:=by
     (have h1:Below base w9 w2:=by rw[←hw2];exact HG.out.2.2.2.drew);exact h1.trans (hb3.mono (by rw[←hw2];exact hbsr))
    have hs3:base≤w3.heap.size:=zT hbsr (by have:=hb3.size;rw[←hw2] at this;exact this);have H3:=zH (zA hrow3 (zA hbl3 hs3));clear hb3 hbl3 hrow3 HCL;by_cases hcm:cmp z.1 y.1<0
    ·have hcd:decide (cmp z.1 y.1<0)=true:=zE hcm;(go_wp2_with fail);go_roundw
     case rel=>
      refine⟨i,h,rfl,by go_num,hai,hih,by omega,by omega,hNi,HG.out.1,fun y' z' hz' hy' _ _=>?_,H3.out.1,H3.out.2.1,H3.out.2.2⟩;rw[HX.out.2.1] at hy';rw[HX.out.2.2.1] at hz';(cases hy');(cases hz');exact .inl hcm
     case measure=>simp [intOf];omega
    ·have hcd:decide (cmp z.1 y.1<0)=false:=zD hcm;(go_wp2_with fail);go_roundw
     case rel=>
      refine⟨h+1,j,by go_num,rfl,by omega,by omega,hjm,hjd,by omega,fun y' z' hy' hz' _ _=>?_,HG.out.2.1,H3.out.1,H3.out.2.1,H3.out.2.2⟩;rw[show h+1-a-1=h-a by omega,HX.out.2.1] at hy';rw[show mid-(h+1)=mid-h-1 by omega,HX.out.2.2.1] at hz';(cases hy');(cases hz');exact(Ah.of_left HC HX.out.2.2.2).2 (by omega)
     case measure=>simp [intOf];omega
   ·(obtain rfl:i=j:=by omega);clear hlt hij;obtain⟨L1,hL1⟩:∃L1,L.take (i-a)=L1:=⟨_,rfl⟩;obtain⟨L2,hL2'⟩:∃L2,L.drop (i-a)=L2:=⟨_,rfl⟩;obtain⟨R1,hR1⟩:∃R1,R.take (mid-i)=R1:=⟨_,rfl⟩;obtain⟨R2,hR2'⟩:∃R2,R.drop (mid-i)=R2:=⟨_,rfl⟩;have hNN:=HNE.out.1;(have l1:a+L1.length=i:=by rw[←hL1,zL];omega);(have l2:i+L2.length=m:=by rw[←hL2',List.length_drop];omega);(have l3:i+R1.length=mid:=by rw[←hR1,zL];omega);(have l4:R1.length+R2.length=R.length:=by rw[←hR1,←hR2',←zF,List.take_append_drop]);(have hLL:L1++L2=L:=by rw[←hL1,←hL2',List.take_append_drop]);(have hRR:R1++R2=R:=by rw[←hR1,←hR2',List.take_append_drop]);have HCU:=zH (by
     have h1:=cut_up HC HR0.out.2.1 HR0.out.2.2.1 (i-a) (mid-i) (by omega) (by omega) (fun h k=>HG.out.1 _ _ (zM (by omega)) (zM k) (by omega) (by omega)) (fun h k=>HG.out.2.1 _ _ (zM (by omega)) (zM h) (by omega) (by omega));rw[hL1,hL2',hR1,hR2'] at h1;have h2:=HR0.out.2.1;have h3:=HR0.out.2.2.1;rw[←hLL] at h2;rw[←hRR] at h3;have h4:=HR0.out.2.2.2;rw[←hLL,←hRR] at h4;exact zA h1 (zA h2 (zA h3 h4)))
    have hrow:=HG.out.2.2.1;(have e1:P++L++R++Q=P++L1++L2++R1++(R2++Q):=by rw[←hLL,←hRR];simp);rw[e1] at hrow;obtain⟨e0,he0⟩:∃e0:Nat,e0+i=N:=⟨N-i,by omega⟩;(have we:IntKind.i64.wrap ((N:Int)-i)=e0:=by rw[IntWalk.i64_in _ (by omega)];omega);(obtain⟨l5,l6⟩:m+R1.length=e0∧e0+R2.length=b:=by omega);have HF:=zH (zA hrow (zA HG.out.2.2.2 hbsr));clear hrow;have HLR:=zH (zA hLL hRR);clear hLL hRR hL1 hL2' hR1 hR2' e1 he0 hNN;(go_upto_region 39 with fail);go_cut [185] from 178 to 185 (fun cv wx=>cv= .bool (decide (i<m∧m<e0))∧wx=wr)
    case first=>
     by_cases h1:i<m
     ·have h1d:decide ((i:Int)<m)=true:=zE (by omega);by_cases h2:m<e0
      ·have h2d:decide ((m:Int)<e0)=true:=zE (by omega);(go_wp2_with fail);(go_meet);exact⟨by simp [h1,h2],rfl⟩
      ·have h2d:decide ((m:Int)<e0)=false:=zD (by omega);(go_wp2_with fail);(go_meet);exact⟨by simp [h1,h2],rfl⟩
     ·have h1d:decide ((i:Int)<m)=false:=zD (by omega);(go_wp2_with fail);(go_meet);exact⟨by simp [h1],rfl⟩
    case rest=>
     obtain⟨rfl,hwc⟩:=hcut;rw[←hwc] at HF;clear hwc;(go_upto_if 185 with fail);go_cut [24] from 185 to 191 (fun ev wx=>ev= .int .i64 e0∧RowDMK wx base (.slice (some ⟨g,0,none⟩) n c) n (P++L1++R1++L2++(R2++Q))∧Below base w9 wx∧base≤wx.heap.size)
     case first=>
      by_cases hb:i<m∧m<e0
      ·have hbd:decide (i<m∧m<e0)=true:=zE hb;have HS:=zH (HF.out.1.rot (cv:= .func (.func 89) #[] #[]) (a:=i) (m:=m) (b:=e0) hn (by rw[zF];omega) l2 l5 (by omega) (by omega) HF.out.2.1 HF.out.2.2);(go_wp2_with fail);refine HS.out.mono ?_;rintro e w3 ⟨rfl,hr3,hb3,hs3⟩;have H3:=zH (zA hr3 (zA hb3 hs3));clear hr3 hb3 hs3 HS;(go_wp2_with fail);(go_meet);exact⟨rfl,H3.out.1,H3.out.2.1,H3.out.2.2⟩
      ·have hbd:decide (i<m∧m<e0)=false:=zD hb;(go_wp2_with fail);(go_meet);refine⟨rfl,?_,HF.out.2.1,HF.out.2.2⟩;have h1:=HF.out.1;(have h0:i=m∨m=e0:=by omega);rcases h0 with h0 | h0
       ·have:L2=[]:=List.eq_nil_of_length_eq_zero (by omega);rw[this] at h1⊢
        simpa using h1
       ·have:R1=[]:=List.eq_nil_of_length_eq_zero (by omega);rw[this] at h1⊢
        simpa using h1
     case rest=>
      obtain⟨rfl,hr1,hb1,hs1⟩:=hcut
      rename World=>wA
      have HA:=zH (zA hr1 (zA hb1 hs1));clear hr1 hb1 hs1;(go_upto_region 41 with fail);go_cut [199] from 192 to 199 (fun cv wx=>cv= .bool (decide (a<i∧i<mid))∧wx=wA)
      case first=>
       by_cases h1:a<i
       ·have h1d:decide ((a:Int)<i)=true:=zE (by omega);by_cases h2:i<mid
        ·have h2d:decide ((i:Int)<mid)=true:=zE (by omega);(go_wp2_with fail);(go_meet);exact⟨by simp [h1,h2],rfl⟩
        ·have h2d:decide ((i:Int)<mid)=false:=zD (by omega);(go_wp2_with fail);(go_meet);exact⟨by simp [h1,h2],rfl⟩
       ·have h1d:decide ((a:Int)<i)=false:=zD (by omega);(go_wp2_with fail);(go_meet);exact⟨by simp [h1],rfl⟩
      case rest=>
       obtain⟨rfl,hwc⟩:=hcut;rw[←hwc] at HA;clear hwc;(go_upto_if 199 with fail);go_cut [24] from 199 to 205 (fun ev wx=>ev= .int .i64 e0∧∃M1:List eDMK,M1.Perm (L1++R1)∧UpS cmp M1∧RowDMK wx base (.slice (some ⟨g,0,none⟩) n c) n (P++M1++(L2++R2++Q))∧Below base w9 wx∧base≤wx.heap.size)
       case first=>
        have hrA:=HA.out.1;(have e1:P++L1++R1++L2++(R2++Q)=P++L1++R1++(L2++R2++Q):=by simp);rw[e1] at hrA;clear e1;have HRA:=zH hrA;clear hrA;by_cases hb:a<i∧i<mid
        ·have hbd:decide (a<i∧i<mid)=true:=zE hb;have HS:=zH (HREC.out wc a i mid P L1 R1 (L2++R2++Q) (by omega) hP l1 l3 (by omega) (by omega) HCU.out.2.1.left HCU.out.2.2.1.left (fun p hp q hq=>HCU.out.2.2.2 p (zU _ hp) q (zU _ hq)) HA.out.2.2 HRA.out);(go_wp2_with fail);refine HS.out.mono ?_;rintro e w3 ⟨rfl,M1,hM1,hM2,hr3,hb3⟩;have H3:=zH (zA hM1 (zA hM2 (zA hr3 (zA (HA.out.2.1.trans hb3) (zT HA.out.2.2 hb3.size)))));clear hM1 hM2 hr3 hb3 HS;(go_wp2_with fail);(go_meet);exact⟨rfl,M1,H3.out⟩
        ·have hbd:decide (a<i∧i<mid)=false:=zD hb;(go_wp2_with fail);(go_meet);refine⟨rfl,L1++R1,List.Perm.refl _,?_,?_,HA.out.2.1,HA.out.2.2⟩
         ·(have h0:a=i∨i=mid:=by omega);rcases h0 with h0 | h0
          ·have:L1=[]:=List.eq_nil_of_length_eq_zero (by omega);rw[this];exact HCU.out.2.2.1.left
          ·have:R1=[]:=List.eq_nil_of_length_eq_zero (by omega);rw[this,List.append_nil];exact HCU.out.2.1.left
         ·have h1:=HRA.out
          rwa [zV P] at h1
       case rest=>
        obtain⟨rfl,M1,hM1,hM2,hr1,hb1,hs1⟩:=hcut
        rename World=>wB
        have HB:=zH (zA hM1 (zA hM2 (zA hr1 (zA hb1 hs1))));clear hM1 hM2 hr1 hb1 hs1;(have hml:M1.length=L1.length+R1.length:=by rw[HB.out.1.length_eq,zF]);(go_upto_region 43 with fail);go_cut [213] from 206 to 213 (fun cv wx=>cv= .bool (decide (mid<e0∧e0<b))∧wx=wB)
        case first=>
         by_cases h1:mid<e0
         ·have h1d:decide ((mid:Int)<e0)=true:=zE (by omega);by_cases h2:e0<b
          ·have h2d:decide ((e0:Int)<b)=true:=zE (by omega);(go_wp2_with fail);(go_meet);exact⟨by simp [h1,h2],rfl⟩
          ·have h2d:decide ((e0:Int)<b)=false:=zD (by omega);(go_wp2_with fail);(go_meet);exact⟨by simp [h1,h2],rfl⟩
         ·have h1d:decide ((mid:Int)<e0)=false:=zD (by omega);(go_wp2_with fail);(go_meet);exact⟨by simp [h1],rfl⟩
        case rest=>
         obtain⟨rfl,hwc⟩:=hcut;rw[←hwc] at HB;clear hwc;have hrB:=HB.out.2.2.1;(have e1:P++M1++(L2++R2++Q)=(P++M1)++L2++R2++Q:=by simp);rw[e1] at hrB;clear e1;have HRB:=zH hrB;clear hrB;have HEND:=zH (fun(M2:List eDMK) (h1:M2.Perm (L2++R2)) (h2:UpS cmp M2)=>(by
          refine⟨?_,UpS.app HB.out.2.1 h2 fun p hp q hq=>?_⟩
          ·rw[←HLR.out.1,←HLR.out.2];refine(HB.out.1.append h1).trans ?_;rw[zV,zV];refine List.Perm.append_left _ ?_;rw[←zV,←zV];exact List.Perm.append_right _ List.perm_append_comm
          ·exact HCU.out.1 p (HB.out.1.mem_iff.1 hp) q (h1.mem_iff.1 hq):(M1++M2).Perm (L++R)∧UpS cmp (M1++M2)))
         by_cases hb:mid<e0∧e0<b
         ·have hbd:decide (mid<e0∧e0<b)=true:=zE hb;have HS:=zH (HREC.out wc mid e0 b (P++M1) L2 R2 Q (by omega) (by rw[zF];omega) (by omega) l6 (by omega) (by omega) HCU.out.2.1.right HCU.out.2.2.1.right (fun p hp q hq=>HCU.out.2.2.2 p (List.mem_append_right _ hp) q (List.mem_append_right _ hq)) HB.out.2.2.2.2 HRB.out);(go_wp2_with fail);refine HS.out.mono ?_;rintro e w3 ⟨rfl,M2,hM1,hM2,hr3,hb3⟩;have H3:=zH (zA (HEND.out M2 hM1 hM2) (zA hr3 (HB.out.2.2.2.1.trans hb3)));clear hM1 hM2 hr3 hb3 HS;(go_wp2_with fail);(go_end0);refine⟨rfl,M1++M2,H3.out.1.1,H3.out.1.2,?_,H3.out.2.2⟩;have h1:=H3.out.2.1
          rwa [zV P] at h1
         ·have hbd:decide (mid<e0∧e0<b)=false:=zD hb;have hup2:UpS cmp (L2++R2):=by
           (have h0:mid=e0∨e0=b:=by omega);rcases h0 with h0 | h0
           ·have:L2=[]:=List.eq_nil_of_length_eq_zero (by omega);rw[this];exact HCU.out.2.2.1.right
           ·have:R2=[]:=List.eq_nil_of_length_eq_zero (by omega);rw[this,List.append_nil];exact HCU.out.2.1.right
          have H3:=zH (HEND.out _ (List.Perm.refl _) hup2);clear hup2;(go_wp2_with fail);(go_end0);refine⟨rfl,M1++(L2++R2),H3.out.1,H3.out.2,?_,HB.out.2.2.2.1⟩;have h1:=HRB.out;have e1:P++M1++L2++R2++Q=P++(M1++(L2++R2))++Q:=by simp
          rwa [e1] at h1
theorem symMergeMK_any (cmp:{s:ByteArray//s.size≤90000}×Pr→{s:ByteArray//s.size≤90000}×Pr→Int)(HC:Cmp cmp)(hcall:∀W x y,Calls Tryz.prog 89 #[.agg (eCMK x).toArray,.agg (eCMK y).toArray] W fun e w'=>e= .returned (.int .i64 (cmp x y))∧Below W.heap.size W w')
  (base:Nat) (A:Option Addr) (c n:Nat) (hn:n≤1000000):∀k,ShorterMK cmp base A c n k:=by
 intro k;induction k with
 | zero=>intro W a m b P L R Q h;exact absurd h (Nat.not_lt_zero _)
 | succ k ih=>
  intro W a m b P L R Q hk hP hL hR hL0 hR0 hupL hupR hcame hbs hrow;by_cases h1:L.length=1
  ·obtain⟨x,rfl⟩:=List.length_eq_one_iff.1 h1;have hr:RowDMK W base (.slice A n c) n (P++x::(R++Q)):=by
    (have e:P++[x]++R++Q=P++x::(R++Q):=by simp);rw[←e];exact hrow
   exact mergeLMK_any cmp HC hcall W base A c n a m b P R Q x hn hP hL.symm hR hupR (fun q hq=>hcame x (by simp) q hq) hbs hr
  ·by_cases h2:R.length=1
   ·obtain⟨x,rfl⟩:=List.length_eq_one_iff.1 h2;have hr:RowDMK W base (.slice A n c) n (P++L++x::Q):=by
     (have e:P++L++[x]++Q=P++L++x::Q:=by simp);rw[←e];exact hrow
    exact mergeRMK_any cmp HC hcall W base A c n a m b P L Q x hn hP hL (by omega) hR.symm hupL (fun q hq=>hcame q hq x (by simp)) hbs hr
   ·exact mergeMMK_any cmp HC hcall W base A c n a m b P L R Q hn hP hL hR (by omega) (by omega) hupL hupR hcame hbs hrow (fun W' a' m' b' P' L' R' Q' hk'=>ih W' a' m' b' P' L' R' Q' (by omega))
end Go.Proofs.YtnpehjgnplaabaaGreatDoor
namespace Sw
section
variable {α:Type} {c:α→α→Int}
theorem Came.perm {l l' m m':List (α×Nat)}(h:Came l m)(hl:l'.Perm l)(hm:m'.Perm m):Came l' m':=fun p hp q hq=>h p (hl.mem_iff.1 hp) q (hm.mem_iff.1 hq)
theorem came_two {X1 X2:List (List (α×Nat))}{B1 B2 M:List (α×Nat)}(h:(X1++B1::B2::X2).Pairwise Came)(hM:M.Perm (B1++B2)):(X1++M::X2).Pairwise Came:=by
 obtain⟨h1,h2,h3⟩:=List.pairwise_append.1 h;obtain⟨k1,k2⟩:=List.pairwise_cons.1 h2;obtain⟨k3,k4⟩:=List.pairwise_cons.1 k2;have hin:∀p,p∈M→p∈B1∨p∈B2:=fun p hp=>List.mem_append.1 (hM.mem_iff.1 hp)
 refine List.pairwise_append.2 ⟨h1,List.pairwise_cons.2 ⟨fun Y hY p hp q hq=>?_,k4⟩,fun Z hZ Y hY=>?_⟩
 ·rcases hin p hp with h | h
  ·exact k1 Y (List.mem_cons_of_mem _ hY) p h q hq
  ·exact k3 Y hY p h q hq
 ·rcases List.mem_cons.1 hY with rfl | hY
  ·intro p hp q hq;rcases hin q hq with h | h
   ·exact h3 Z hZ B1 (by simp) p hp q h
   ·exact h3 Z hZ B2 (by simp) p hp q h
  ·exact h3 Z hZ Y (by simp [hY])
theorem came_cut {X1:List (List (α×Nat))}{T1 T2 M:List (α×Nat)}(h:(X1++[T1++T2]).Pairwise Came)(hr:(T1++T2).Pairwise fun p q=>p.2<q.2)(hM:M.Perm T1):(X1++[M]++[T2]).Pairwise Came:=by
 obtain⟨h1,_,h3⟩:=List.pairwise_append.1 h;have hc:=(List.pairwise_append.1 hr).2.2;rw[zV];refine List.pairwise_append.2 ⟨h1,List.pairwise_cons.2 ⟨fun Y hY=>?_,List.pairwise_singleton _ _⟩,fun Z hZ Y hY=>?_⟩
 ·obtain rfl:=List.mem_singleton.1 hY;exact fun p hp q hq=>hc p (hM.mem_iff.1 hp) q hq
 ·have h4:=h3 Z hZ _ (List.mem_singleton.2 rfl);simp only[List.cons_append,List.nil_append,List.mem_cons,List.not_mem_nil,or_false] at hY;rcases hY with rfl | rfl
  ·exact fun p hp q hq=>h4 p hp q (zU _ (hM.mem_iff.1 hq))
  ·exact fun p hp q hq=>h4 p hp q (List.mem_append_right _ hq)
def Blks (c:α→α→Int) (bs:Nat) (bl:List (List (α×Nat))):Prop:=∀B∈bl,B.length=bs∧UpS c B
theorem Blks.nil {bs:Nat}:Blks c bs []:=fun B h=>by cases h
theorem Blks.snoc {bs:Nat}{bl:List (List (α×Nat))}{B:List (α×Nat)}(h:Blks c bs bl)(hl:B.length=bs)(hu:UpS c B):Blks c bs (bl++[B]):=fun Y hY=>by
 rcases List.mem_append.1 hY with h' | h'
 ·exact h Y h'
 ·rw[List.mem_singleton.1 h'];exact⟨hl,hu⟩
def Sorts (c:α→α→Int) (bs:Nat) (X l:List (α×Nat)):Prop:=
 ∃(bl:List (List (α×Nat))) (F:List (α×Nat)),l=bl.flatten++F∧Blks c bs bl∧F.length<bs∧UpS c F∧(bl++[F]).Pairwise Came∧l.Perm X
theorem Sorts.done {bs:Nat}{X l:List (α×Nat)}(h:Sorts c bs X l)(hl:l.length≤bs):l.Perm X∧UpS c l:=by
 obtain⟨bl,F,rfl,hb,hF,hu,hc,hp⟩:=h;refine⟨hp,?_⟩;rcases bl with _ | ⟨B,bl⟩
 ·simpa using hu
 ·have h1:=hb B (by simp);rw[List.flatten_cons,zF,zF,h1.1] at hl;have e1:F=[]:=List.eq_nil_of_length_eq_zero (by omega);have e2:bl.flatten=[]:=List.eq_nil_of_length_eq_zero (by omega);rw[List.flatten_cons,e1,e2]
  simpa using h1.2
end
end Sw
namespace Go.Proofs.YtnpehjgnplaabaaGreatDoor
open Go Go.RowKit
open Sw
theorem stableMK_any (cmp:{s:ByteArray//s.size≤90000}×Pr→{s:ByteArray//s.size≤90000}×Pr→Int)(HC:Cmp cmp)(hcall:∀W x y,Calls Tryz.prog 89 #[.agg (eCMK x).toArray,.agg (eCMK y).toArray] W fun e w'=>e= .returned (.int .i64 (cmp x y))∧Below W.heap.size W w')
  (w:World) (base:Nat) (A:Option Addr) (c:Nat) (n:Nat) (X:List eDMK) (hn:n≤1000000) (hrise:X.Pairwise fun p q=>p.2<q.2) (hbs:base≤w.heap.size)
  (hrow:RowDMK w base (.slice A n c) n X):
  Calls Tryz.prog 199 #[.slice A n c,.int .i64 n,.func (.func 89) #[] #[]] w fun e w'=>e= .returned (.tuple #[])∧∃M:List eDMK,M.Perm X∧UpS cmp M∧RowDMK w' base (.slice A n c) n M∧Below base w w':=by
 have HR0:=zH (zA hrow hrise);have HCC:=zH hcall;clear hrow hrise hcall;go_enter Tryz.func199,Tryz.ntmps199
 go_wp2_with fail
 go_loopw [7,8] (fun av bv wr=>∃(a b:Nat) (bl:List (List eDMK)) (T:List eDMK),av= .int .i64 a∧bv= .int .i64 b∧a+20≤b∧b≤a+20∧bl.flatten.length=a∧Blks cmp 20 bl∧(bl++[T]).Pairwise Came∧(T.Pairwise fun p q=>p.2<q.2)∧(bl.flatten++T).Perm X∧RowDMK wr base (.slice A n c) n (bl.flatten++T)∧Below base w wr∧base≤wr.heap.size) (fun av bv _=>n+40-(intOf bv).toNat)
 case atStart=>
  exact⟨0,20,[],X,rfl,rfl,zN _,zN _,rfl,Blks.nil,List.pairwise_singleton _ _,HR0.out.2,List.Perm.refl _,HR0.out.1,zR _ _,hbs⟩
 case round=>
  obtain⟨a,b,bl,T,rfl,rfl,hab1,hab2,hla,hbk,hcm,hTr,hpm,hrow,hbl,hbsr⟩:=hrel;have hln:=hrow.1;rw[zF,hla] at hln;have HG:=zH (zA hbk (zA hcm (zA hTr (zA hpm (zA hrow (zA hbl hbsr))))));clear hbk hcm hTr hpm hrow hbl hbsr;by_cases hbn:b≤n
  ·have hbn1:(b:Int)≤n:=by omega
   have w1:IntKind.i64.wrap ((b:Int)+20)=b+20:=IntWalk.i64_in _ (by omega);have hTT:T.take 20++T.drop 20=T:=List.take_append_drop _ _;(have hl20:(T.take 20).length=20:=by rw[zL];omega);have HS:=zH (insertMK_any cmp HC HCC.out wr base A c n a b bl.flatten (T.take 20) (T.drop 20) hn hla (by omega) (HG.out.2.2.1.sublist (List.take_sublist _ _)) HG.out.2.2.2.2.2.2 (by rw[zV,hTT];exact HG.out.2.2.2.2.1));have HT:=zH (zA hTT hl20);clear hTT hl20;(go_wp2_with fail);refine HS.out.mono ?_;rintro e w3 ⟨rfl,Y,hY1,hY2,hr3,hb3⟩;have H3:=zH (zA hY1 (zA hY2 (zA hr3 (zA (HG.out.2.2.2.2.2.1.trans hb3) (zT HG.out.2.2.2.2.2.2 hb3.size)))));clear hY1 hY2 hr3 hb3 HS;(have hYl:Y.length=20:=by rw[H3.out.1.length_eq,HT.out.2]);(go_wp2_with fail);go_roundw
   case rel=>
    (have hf:(bl++[Y]).flatten=bl.flatten++Y:=by simp);refine⟨b,b+20,bl++[Y],T.drop 20,by go_num,by go_num,zN _,zN _,?_,HG.out.1.snoc hYl H3.out.2.1,?_,HG.out.2.2.1.sublist (List.drop_sublist _ _),?_,?_,H3.out.2.2.2.1,H3.out.2.2.2.2⟩
    ·rw[hf,zF,hla,hYl];omega
    ·exact came_cut (by rw[HT.out.1];exact HG.out.2.1) (by rw[HT.out.1];exact HG.out.2.2.1) H3.out.1
    ·rw[hf,zV];refine List.Perm.trans (List.Perm.append_left _ (List.Perm.append_right _ H3.out.1)) ?_;rw[HT.out.1];exact HG.out.2.2.2.1
    ·rw[hf];exact H3.out.2.2.1
   case measure=>simp [intOf];omega
  ·have hbn1:¬(b:Int)≤n:=by omega
   have HS:=zH (insertMK_any cmp HC HCC.out wr base A c n a n bl.flatten T [] hn hla (by omega) HG.out.2.2.1 HG.out.2.2.2.2.2.2 (by rw[List.append_nil];exact HG.out.2.2.2.2.1));(go_wp2_with fail);refine HS.out.mono ?_;rintro e w3 ⟨rfl,Y,hY1,hY2,hr3,hb3⟩;rw[List.append_nil] at hr3;have HSO:=zH (show Sorts cmp 20 X (bl.flatten++Y) from⟨bl,Y,rfl,HG.out.1,by rw[hY1.length_eq];omega,hY2,by
    refine List.pairwise_append.2 ⟨(List.pairwise_append.1 HG.out.2.1).1,List.pairwise_singleton _ _,fun Z hZ V hV=>?_⟩;rw[List.mem_singleton.1 hV];exact((List.pairwise_append.1 HG.out.2.1).2.2 Z hZ T (by simp)).perm (List.Perm.refl _) hY1,(List.Perm.append_left _ hY1).trans HG.out.2.2.2.1⟩)
   have H3:=zH (zA hr3 (zA (HG.out.2.2.2.2.2.1.trans hb3) (zT HG.out.2.2.2.2.2.2 hb3.size)));clear hY1 hY2 hr3 hb3 HS;(go_wp2_with fail);go_loopw [6,7,8,9] (fun sv _ _ _ wr=>∃(bs:Nat) (l:List eDMK),sv= .int .i64 bs∧20≤bs∧bs≤2000000∧Sorts cmp bs X l∧RowDMK wr base (.slice A n c) n l∧Below base w wr∧base≤wr.heap.size) (fun sv _ _ _ _=>n-(intOf sv).toNat)
   case atStart=>exact⟨20,_,rfl,zN _,by omega,HSO.out,H3.out⟩
   case round=>
    obtain⟨bs,l,rfl,hbs20,hbsm,hso,hrow,hbl,hbsr2⟩:=hrel;have hll:=hrow.1;by_cases hlt:bs<n
    ·(have hlt1:(bs:Int)<n:=by omega);obtain⟨bl0,F,hlE,hB0,hF,hFu,hCm,hPm⟩:=hso;have HG2:=zH (zA hlE (zA hB0 (zA hF (zA hFu (zA hCm (zA hPm (zA hrow (zA hbl hbsr2))))))));clear hlE hB0 hF hFu hCm hPm hrow hbl hbsr2;have w2:IntKind.i64.wrap (2*(bs:Int))=2*bs:=IntWalk.i64_in _ (by omega);have w22:IntKind.i64.wrap ((bs:Int)*2)=bs*2:=IntWalk.i64_in _ (by omega);(go_wp2_with fail);go_loopw [7,8] (fun av bv wr=>∃(a b:Nat) (Dl El:List (List eDMK)),av= .int .i64 a∧bv= .int .i64 b∧a+2*bs≤b∧b≤a+2*bs∧Dl.flatten.length=a∧Blks cmp (2*bs) Dl∧Blks cmp bs El∧(Dl++(El++[F])).Pairwise Came∧(Dl.flatten++(El.flatten++F)).Perm X∧RowDMK wr base (.slice A n c) n (Dl.flatten++(El.flatten++F))∧Below base w wr∧base≤wr.heap.size) (fun av bv _=>n+4000000-(intOf bv).toNat)
     case atStart=>
      refine⟨0,2*bs,[],bl0,rfl,by go_num,by omega,by omega,rfl,Blks.nil,HG2.out.2.1,HG2.out.2.2.2.2.1,?_,?_,HG2.out.2.2.2.2.2.2.2⟩
      ·have:=HG2.out.2.2.2.2.2.1;rw[HG2.out.1] at this;exact this
      ·have:=HG2.out.2.2.2.2.2.2.1;rw[HG2.out.1] at this;exact this
     case round=>
      obtain⟨a,b,Dl,El,rfl,rfl,hab1,hab2,hla,hDk,hEk,hcm,hpm,hrow,hbl,hbsr3⟩:=hrel;have hln:=hrow.1;rw[zF,zF,hla] at hln;have HK:=zH (zA hDk (zA hEk (zA hcm (zA hpm (zA hrow (zA hbl hbsr3))))));clear hDk hEk hcm hpm hrow hbl hbsr3;have hFl:=HG2.out.2.2.1;by_cases hbn:b≤n
      ·(have hbn1:(b:Int)≤n:=by omega);have wm:IntKind.i64.wrap ((a:Int)+bs)=a+bs:=IntWalk.i64_in _ (by omega);have wb:IntKind.i64.wrap ((b:Int)+2*bs)=b+2*bs:=IntWalk.i64_in _ (by omega);obtain⟨B1,B2,E',rfl⟩:∃B1 B2 E',El=B1::B2::E':=by
        rcases El with _ | ⟨B1,_ | ⟨B2,E'⟩⟩
        ·simp only[List.flatten_nil,List.length_nil] at hln;omega
        ·have:=(HK.out.2.1 B1 (by simp)).1;simp only[List.flatten_cons,List.flatten_nil,List.append_nil] at hln;omega
        ·exact⟨B1,B2,E',rfl⟩
       have k1:=HK.out.2.1 B1 (by simp);have k2:=HK.out.2.1 B2 (by simp);have hc12:Came B1 B2:=(List.pairwise_cons.1 (List.pairwise_append.1 HK.out.2.2.1).2.1).1 B2 (by simp);obtain⟨m,hm⟩:∃m:Nat,((a:Int)+bs)=m:=⟨a+bs,by omega⟩;(have e1:Dl.flatten++((B1::B2::E').flatten++F)=Dl.flatten++B1++B2++(E'.flatten++F):=by simp);have HS:=zH (symMergeMK_any cmp HC HCC.out base A c n hn (2*bs+1) wr a m b Dl.flatten B1 B2 (E'.flatten++F) (by omega) hla (by omega) (by omega) (by omega) (by omega) k1.2 k2.2 hc12 HK.out.2.2.2.2.2.2 (by rw[←e1];exact HK.out.2.2.2.2.1));have HB:=zH (zA k1 k2);clear k1 k2 hc12 e1;(go_wp2_with fail);refine HS.out.mono ?_;rintro e w5 ⟨rfl,M,hM1,hM2,hr3,hb3⟩;have H5:=zH (zA hM1 (zA hM2 (zA hr3 (zA (HK.out.2.2.2.2.2.1.trans hb3) (zT HK.out.2.2.2.2.2.2 hb3.size)))));clear hM1 hM2 hr3 hb3 HS;(have hMl:M.length=2*bs:=by rw[H5.out.1.length_eq,zF,HB.out.1.1,HB.out.2.1];omega);(go_wp2_with fail);go_roundw
       case rel=>
        (have hf:(Dl++[M]).flatten=Dl.flatten++M:=by simp);refine⟨b,b+2*bs,Dl++[M],E',by go_num,by go_num,by omega,by omega,?_,HK.out.1.snoc hMl H5.out.2.1,fun Y hY=>HK.out.2.1 Y (by simp [hY]),?_,?_,?_,H5.out.2.2.2.1,H5.out.2.2.2.2⟩
        ·rw[hf,zF,hla,hMl];omega
        ·have h1:=came_two (X2:=E'++[F]) HK.out.2.2.1 H5.out.1
         simpa using h1
        ·rw[hf];refine List.Perm.trans ?_ HK.out.2.2.2.1;simp only[List.flatten_cons,zV];refine List.Perm.append_left _ ?_;rw[←zV,←zV,←zV];have:=List.Perm.append_right (E'.flatten++F) H5.out.1
         simpa using this
        ·rw[hf];exact H5.out.2.2.1
       case measure=>simp [intOf];omega
      ·(have hbn1:¬(b:Int)≤n:=by omega);obtain⟨m,hm⟩:∃m:Nat,((a:Int)+bs)=m:=⟨a+bs,by omega⟩;(have wm:IntKind.i64.wrap ((a:Int)+bs)=m:=by rw[IntWalk.i64_in _ (by omega)];omega);by_cases hmn:m<n
       ·(have hmn1:(m:Int)<n:=by omega);obtain⟨B,rfl⟩:∃B,El=[B]:=by
         rcases El with _ | ⟨B1,_ | ⟨B2,E'⟩⟩
         ·simp only[List.flatten_nil,List.length_nil] at hln;omega
         ·exact⟨B1,rfl⟩
         ·have k1:=(HK.out.2.1 B1 (by simp)).1;have k2:=(HK.out.2.1 B2 (by simp)).1;simp only[List.flatten_cons,zF] at hln;omega
        have k1:=HK.out.2.1 B (by simp);have hFl0:0<F.length:=by
         simp only[List.flatten_cons,List.flatten_nil,List.append_nil] at hln;omega
        have hmF:m+F.length=n:=by
         simp only[List.flatten_cons,List.flatten_nil,List.append_nil] at hln;omega
        have hcBF:Came B F:=(List.pairwise_cons.1 (List.pairwise_append.1 HK.out.2.2.1).2.1).1 F (by simp);(have e1:Dl.flatten++([B].flatten++F)=Dl.flatten++B++F++[]:=by simp);have HS:=zH (symMergeMK_any cmp HC HCC.out base A c n hn (2*bs+1) wr a m n Dl.flatten B F [] (by omega) hla (by omega) hmF (by omega) hFl0 k1.2 HG2.out.2.2.2.1 hcBF HK.out.2.2.2.2.2.2 (by rw[←e1];exact HK.out.2.2.2.2.1));have HB:=zH k1;clear k1 hcBF e1;(go_wp2_with fail);refine HS.out.mono ?_;rintro e w5 ⟨rfl,M,hM1,hM2,hr3,hb3⟩;rw[List.append_nil] at hr3;have H5:=zH (zA hM1 (zA hM2 (zA hr3 (zA (HK.out.2.2.2.2.2.1.trans hb3) (zT HK.out.2.2.2.2.2.2 hb3.size)))));clear hM1 hM2 hr3 hb3 HS;(have hMl:M.length=bs+F.length:=by rw[H5.out.1.length_eq,zF,HB.out.1]);(go_wp2_with fail);go_roundw
        case rel=>
         refine⟨bs*2,Dl.flatten++M,by go_num,by omega,by omega,⟨Dl,M,rfl,by rw[Nat.mul_comm];exact HK.out.1,by omega,H5.out.2.1,came_two (X2:=[]) HK.out.2.2.1 H5.out.1,?_⟩,H5.out.2.2.1,H5.out.2.2.2.1,H5.out.2.2.2.2⟩;refine List.Perm.trans (List.Perm.append_left _ H5.out.1) ?_;have:=HK.out.2.2.2.1
         simpa using this
        case measure=>simp [intOf];omega
       ·(have hmn1:¬(m:Int)<n:=by omega);have HSO2:=zH (show Sorts cmp (bs*2) X (Dl.flatten++(El.flatten++F)) from by
         refine⟨Dl,El.flatten++F,rfl,by rw[Nat.mul_comm];exact HK.out.1,by rw[zF];omega,?_,?_,HK.out.2.2.2.1⟩
         ·rcases El with _ | ⟨B1,E'⟩
          ·exact HG2.out.2.2.2.1
          ·have k1:=HK.out.2.1 B1 (by simp);simp only[List.flatten_cons,zF] at hln;have f1:F=[]:=List.eq_nil_of_length_eq_zero (by omega);have f2:E'.flatten=[]:=List.eq_nil_of_length_eq_zero (by omega);rw[List.flatten_cons,f1,f2]
           simpa using k1.2
         ·rcases El with _ | ⟨B1,E'⟩
          ·exact HK.out.2.2.1
          ·have k1:=HK.out.2.1 B1 (by simp);simp only[List.flatten_cons,zF] at hln;have f1:F=[]:=List.eq_nil_of_length_eq_zero (by omega);have f2:E'.flatten=[]:=List.eq_nil_of_length_eq_zero (by omega);rw[List.flatten_cons,f1,f2];have h1:=HK.out.2.2.1;simp only[List.append_nil];refine h1.sublist (List.Sublist.append_left ?_ _);exact List.Sublist.cons_cons _ (List.nil_sublist _))
        (go_wp2_with fail);go_roundw
        case rel=>exact⟨bs*2,_,by go_num,by omega,by omega,HSO2.out,HK.out.2.2.2.2⟩
        case measure=>simp [intOf];omega
    ·(have hlt1:¬(bs:Int)<n:=by omega);have HD:=zH (hso.done (by omega));have HE:=zH (zA hrow hbl);clear hso hrow hbl;(go_wp2_with fail);(go_end0);exact⟨rfl,l,HD.out.1,HD.out.2,HE.out.1,HE.out.2⟩
theorem sortStableMK_any (cmp:{s:ByteArray//s.size≤90000}×Pr→{s:ByteArray//s.size≤90000}×Pr→Int)(HC:Cmp cmp)(hcall:∀W x y,Calls Tryz.prog 89 #[.agg (eCMK x).toArray,.agg (eCMK y).toArray] W fun e w'=>e= .returned (.int .i64 (cmp x y))∧Below W.heap.size W w')
  (w:World) (base:Nat) (A:Option Addr) (c:Nat) (n:Nat) (X:List eDMK) (hn:n≤1000000) (hrise:X.Pairwise fun p q=>p.2<q.2) (hbs:base≤w.heap.size)
  (hrow:RowDMK w base (.slice A n c) n X):
  Calls Tryz.prog 168 #[.slice A n c,.func (.func 89) #[] #[]] w fun e w'=>e= .returned (.tuple #[])∧∃M:List eDMK,M.Perm X∧UpS cmp M∧RowDMK w' base (.slice A n c) n M∧Below base w w':=by
 have HS:=zH (stableMK_any cmp HC hcall w base A c n X hn hrise hbs hrow);clear hrow hrise hcall;go_enter Tryz.func168,Tryz.ntmps168
 go_wp2_with fail
 refine HS.out.mono ?_;rintro e w3 ⟨rfl,M,h1,h2,h3,h4⟩;have H3:=zH (zA h1 (zA h2 (zA h3 h4)));clear h1 h2 h3 h4 HS;go_wp2_with fail
 go_end0
 exact⟨rfl,M,H3.out⟩
abbrev Pth:={s:ByteArray//s.size≤90000}
abbrev cmpM (x y:Pth×Pr):Int:=ordS x.1.1 y.1.1
theorem cmpM_law:Cmp cmpM where
 irr:=fun x=>by have:=ordS_ord.self x.1.1;show ¬ordS x.1.1 x.1.1<0;omega
 asym:=fun x y h=>by have:=ordS_neg x.1.1 y.1.1;show ¬ordS y.1.1 x.1.1<0;have h':ordS x.1.1 y.1.1<0:=h;omega
 trans:=fun x y z h k=>by
  show ¬ordS z.1.1 x.1.1<0
  have h':¬ordS y.1.1 x.1.1<0:=h;have k':¬ordS z.1.1 y.1.1<0:=k;intro hz;rcases ordS_three y.1.1 x.1.1 with e | e | e
  ·omega
  ·have:=ordS_zero e;rw[←this] at hz;exact k' hz
  ·have e2:ordS x.1.1 y.1.1<0:=by have:=ordS_neg x.1.1 y.1.1;omega
   exact k' (ordS_ord.trans _ _ _ hz e2)
theorem orderM_any (W:World)(x y:Pth×Pr):
  Calls Tryz.prog 89 #[.agg (eCMK x).toArray,.agg (eCMK y).toArray] W fun e w'=>e= .returned (.int .i64 (cmpM x y))∧Below W.heap.size W w':=by
 obtain⟨⟨p,hp⟩,px⟩:=x;obtain⟨⟨q,hq⟩,qx⟩:=y;rw[show cmpM (⟨p,hp⟩,px) (⟨q,hq⟩,qx)=ordS p q from rfl];have hb0:Below W.heap.size W ((W.alloc (.cells (eCMK (⟨p,hp⟩,px)).toArray 63)).alloc (.cells (eCMK (⟨q,hq⟩,qx)).toArray 63)):=((zR _ _).alloc (zN _) _).alloc (by simp) _;have HO:=zH (orderS_any ((W.alloc (.cells (eCMK (⟨p,hp⟩,px)).toArray 63)).alloc (.cells (eCMK (⟨q,hq⟩,qx)).toArray 63)) p q hp hq);have HB:=zH hb0;clear hb0;simp only[eCMK] at*;generalize ordS p q=r at*;go_enter Tryz.func89,Tryz.ntmps89
 go_wp2_with fail
 refine HO.out.mono ?_;rintro e w2 ⟨rfl,hb2⟩;go_wp2_with fail
 go_ret;exact⟨rfl,HB.out.trans (hb2.mono HB.out.size)⟩
def backM (x:Pth×Pr):MkE:=(x.1.1,x.2)
theorem eCMK_back (x:Pth×Pr):eCMK x=eCM (backM x):=rfl
theorem marks_sub:∀(L:List MkE),(∀m∈L,m.1.size≤90000)→∃K:List (Pth×Pr),K.map backM=L
 | [],_=>⟨[],rfl⟩
 | m::L,h=>by
  obtain⟨K,hK⟩:=marks_sub L (fun x hx=>h x (List.mem_cons_of_mem _ hx));exact⟨(⟨m.1,h m (List.mem_cons_self ..)⟩,m.2)::K,by rw[List.map_cons,hK];rfl⟩
theorem flat_back (K:List (Pth×Pr)):K.flatMap eCMK=(K.map backM).flatMap eCM:=by
 induction K with
 | nil=>rfl
 | cons x K ih=>rw[List.flatMap_cons,List.map_cons,List.flatMap_cons,ih,eCMK_back]
theorem zip_riseM {α:Type}(l:List α):l.zipIdx.Pairwise fun p q=>p.2<q.2:=by
 rw[List.pairwise_iff_getElem];intro i j hi hj hij;simp
 omega
theorem both_any (w:World)(u1 u2:Value)(l1 l2:List MkE)(h1:SlV w 6 eCM u1 l1)(h2:SlV w 6 eCM u2 l2)(hl1:l1.length≤100000)(hl2:l2.length≤100000)(hp1:∀m∈l1,m.1.size≤90000)(hp2:∀m∈l2,m.1.size≤90000):
  Calls Tryz.prog 132 #[.agg #[u1,u2]] w fun e w'=>∃(u:Value) (M:List MkE),e= .returned u∧M.Perm (l1++l2)∧w'.ownsRow w.heap.size 63 6 u M.length (M.flatMap eCM)∧Below w.heap.size w w':=by
 obtain⟨K,hK⟩:=marks_sub (l1++l2) (fun m hm=>(List.mem_append.1 hm).elim (hp1 m) (hp2 m));have hb1:Below w.heap.size w (w.alloc (.cells #[u1,u2] 24)):=(zR _ w).alloc (zN _) _;have hb2:Below w.heap.size w ((w.alloc (.cells #[u1,u2] 24)).alloc (.cells #[u1,u2] 22)):=hb1.alloc (by simp) _;have HC:=zH (concatM_any ((w.alloc (.cells #[u1,u2] 24)).alloc (.cells #[u1,u2] 22)) (w.heap.size+1) _ u1 u2 l1 l2 (blk_snd _ _ _ _) (h1.below hb2 (zN _)) (h2.below hb2 (zN _)) hl1 hl2);have HB:=zH hb2;have HKK:=zH hK;obtain⟨A1,k1,rfl,_,_,_⟩:=h1;obtain⟨A2,k2,rfl,_,_,_⟩:=h2;have hkl:K.length=(l1++l2).length:=by rw[←hK,zS]
 have hk2:K.length≤1000000:=by rw[hkl,zF];omega
 have HKL:=zH (zA hkl hk2);clear hb1 hb2 hK hkl hk2 hl1 hl2 hp1 hp2;generalize l1.length=n1 at*;generalize l2.length=n2 at*;go_enter Tryz.func132,Tryz.ntmps132
 go_wp2_with fail
 refine HC.out.mono ?_;rintro e w3 ⟨u,rfl,ho3,hb3⟩;obtain⟨A3,k3,rfl,_,_,_⟩:=SlV_of_any ho3;have hrow:RowDMK w3 w.heap.size (.slice A3 (l1++l2).length k3) (l1++l2).length K.zipIdx:=⟨by rw[List.length_zipIdx];exact HKL.out.1,by rw[List.zipIdx_map_fst,flat_back,HKK.out];exact own_wide ho3 HB.out.size⟩;have hb3w:=HB.out.trans (hb3.mono HB.out.size);have HS:=zH (sortStableMK_any cmpM cmpM_law orderM_any w3 w.heap.size A3 k3 (l1++l2).length K.zipIdx (by rw[←HKL.out.1];exact HKL.out.2) (zip_riseM K) hb3w.size hrow);have H3:=zH hb3w;clear hb3 ho3 hrow hb3w HC;generalize (l1++l2).length=n at*;go_wp2_with fail
 refine HS.out.mono ?_;rintro e w4 ⟨rfl,M,hM,hU,hr,hb4⟩;have HF:=zH (show w4.ownsRow w.heap.size 63 6 (.slice A3 n k3) ((M.map Prod.fst).map backM).length (((M.map Prod.fst).map backM).flatMap eCM) from by
  have h:=hr.2;rw[flat_back] at h;rw[zS,zS,hr.1];exact h)
 have HP:=zH (show((M.map Prod.fst).map backM).Perm (l1++l2) from by
  have h1:=(hM.map Prod.fst).map backM;rw[List.zipIdx_map_fst,HKK.out] at h1;exact h1)
 have HB4:=zH (H3.out.trans hb4);clear hb4 hr hM hU HS;go_wp2_with fail
 go_ret;exact⟨_,_,rfl,HP.out,HF.out,HB4.out⟩
theorem infoESB:(Tryz.prog.info? 225).map (fun i=>(i.zero,i.size,i.bytes))=some (some (.agg #[.string ⟨#[]⟩,.bool false]),2,24):=by kernel_rfl
theorem slCloneSB_any {α:Type}(E:α→List Value)(hE:∀x,(E x).length=2)(hE1:∀x,∀u∈E x,u.oneCell'=true)(w:World)(v:Value)(l:List α)(h:SlV w 2 E v l)(hl:l.length≤1000000):
  Calls Tryz.prog 170 #[v] w fun e w'=>∃v',e= .returned v'∧w'.ownsRow w.heap.size 225 2 v' l.length (l.flatMap E)∧Below w.heap.size w w':=by
 obtain⟨A,c,rfl,hc1,hc2,hsl⟩:=h;cases A with
 | none=>
  have h0:l=[]:=by
   cases l with
   | nil=>rfl
   | cons a l=>obtain⟨b,off,h,_⟩:=hsl (by simp);cases h
  subst h0;have hno:=World.ownsRow_nil w w.heap.size 225 2;have HN:=zH hno;clear hno hsl;have hnl:∀W n c,(binOp .eql 219 (.slice none n c) (.slice none 0 0)).run Tryz.prog W= .ok (.bool true) W:=fun W n c=>Lib.run_eql_slice_nil W 219 225 none n c 0 0 Tryz.underlying219
  go_enter Tryz.func170,Tryz.ntmps170
  go_wp2_with fail
  go_ret;exact⟨_,rfl,HN.out,zR _ _⟩
 | some a=>
  obtain⟨i0,hi,hz0,hz1,hz2⟩:=info_parts infoESB;have hlen:(l.flatMap E).length=l.length*2:=flat_len hE l;have hone:∀u∈l.flatMap E,u.oneCell'=true:=fun u hu=>by
   rw[List.mem_flatMap] at hu;obtain⟨x,_,hx⟩:=hu;exact hE1 x u hx
  have hnews:∀j u,(l.flatMap E)[j]? =some u→w.cell? (a.add j)=some u:=fun j u hj=>by
   have hjl:=(List.getElem?_eq_some_iff.1 hj).1;rw[hlen] at hjl;obtain⟨b,off,hA,_,hcs⟩:=hsl (by omega);rw[Option.some.inj hA,add_mk];(have hq:j/2<l.length:=by omega);have hr:j % 2<2:=Nat.mod_lt _ (by omega);(have hd:j/2*2+j % 2=j:=by omega);have h1:=flat_get hE l (j/2) hq (j % 2) hr;rw[hd,hj] at h1;have h2:=hcs (j/2) hq (j % 2) hr;rw[Nat.add_assoc,hd] at h2;rw[h2,←h1]
  have hnews1:∀(o:Obj) j u,(l.flatMap E)[j]? =some u→(w.alloc o).cell? (a.add j)=some u:=fun o j u hj=>by
   have h1:=hnews j u hj;have hlt:=World.block_lt_of_cell? w _ h1;rw[←h1];exact((zR w.heap.size w).alloc (zN _) o).cell hlt
  have hown:=World.ownsRow_made (e:=225) (size:=2) (base:=w.heap.size) w #[] 0 (zN _) (by decide) (by simp);have hbe:Below w.heap.size w (w.alloc (.cells #[] 225)):=(zR _ _).alloc (zN _) _;have HH:=zH (zA hown hbe);clear hown hbe;have HL:=zH hlen;clear hlen;have HO:=zH hone;clear hone;have HW:=zH hnews1;clear hnews1 hnews;have HI:=zH (zA hi (zA hz0 (zA hz1 hz2)));clear hi hz0 hz1 hz2;generalize l.flatMap E=xs at*;generalize l.length=n at*;have hnl:∀W n c,(binOp .eql 219 (.slice (some a) n c) (.slice none 0 0)).run Tryz.prog W= .ok (.bool false) W:=fun W n c=>Lib.run_eql_slice_nil W 219 225 (some a) n c 0 0 Tryz.underlying219
  go_enter Tryz.func170,Tryz.ntmps170
  go_wp2_with (at_builtin;refine wpList_append_own _ rfl _ _ 219 rfl w.heap.size 225 i0 (.agg #[.string ⟨#[]⟩,.bool false]) 2 24 Tryz.underlying219 HI.out.1 HI.out.2.1 HI.out.2.2.1 HI.out.2.2.2 rfl (by decide) _ _ _ rfl HH.out.1 a n c xs rfl HL.out (HW.out _) HO.out (by unfold maxLen;omega) (by omega) (by simp) ?_;intro v' w1 hown1 hgrow1 hnil1)
  have HP:=zH (zA hown1 hgrow1);clear hown1 hgrow1 hnil1;go_wp2_with fail
  go_ret;refine⟨_,rfl,?_,HH.out.2.grown HP.out.2 (by simp) (fun k hk=>?_)⟩
  ·have:=HP.out.1
   simpa using this
  ·have:w.heap.size=k:=Option.some.inj hk;omega
def SrchPostSB {α:Type} (f:α→Int) (l:List α) (w:World) (e:Ending) (w':World):Prop:=
 ∃i:Nat,i≤l.length∧(∀m (h:m<l.length),m<i→f l[m]<0)∧(∀m (h:m<l.length),i≤m→0≤f l[m])∧
  e= .returned (.tuple #[.int .i64 i,.bool (if h:i<l.length then decide (f l[i]=0) else false)])∧Below w.heap.size w w'
theorem slSearchSB_any {α:Type}(E:α→List Value)(hE:∀x,(E x).length=2)(f:α→Int)(w:World)(A:Option Addr)(n c g:Nat)(l:List α)(kv:Value)(hl:l.length=n)(hn:n≤1000000)(hsl:SlOf w 2 E A l)
  (hmono:∀a b (ha:a<l.length) (hb:b<l.length),a≤b→f l[b]<0→f l[a]<0)
  (hcall:∀W x,x∈l→Below w.heap.size w W→Calls Tryz.prog 201 #[.agg (E x).toArray,kv,.pointer (some ⟨g,0,none⟩)] W fun e w'=>e= .returned (.int .i64 (f x))∧Below W.heap.size W w'):
  Calls Tryz.prog 200 #[.slice A n c,kv,.func (.func 201) #[] #[.pointer (some ⟨g,0,none⟩)]] w (SrchPostSB f l w):=by
 have HS:=zH hsl;clear hsl;have HL:=zH hl;clear hl;have HM:=zH hmono;clear hmono;have HC:=zH hcall;clear hcall;have HE:=zH hE;clear hE;go_enter Tryz.func200,Tryz.ntmps200
 go_wp2_with fail
 go_loopw [9,10] (fun iv jv wr=>∃i j:Nat,i≤j∧j≤n∧iv= .int .i64 i∧jv= .int .i64 j∧(∀m (h:m<l.length),m<i→f l[m]<0)∧(∀m (h:m<l.length),j≤m→0≤f l[m])∧Below w.heap.size w wr) (fun iv jv _=>(intOf jv-intOf iv).toNat)
 case atStart=>exact⟨0,n,Nat.zero_le _,zN _,rfl,rfl,fun m h h'=>by omega,fun m h h'=>by have:=HL.out;omega,zR _ _⟩
 case round=>
  obtain⟨i,j,hij,hjn,rfl,rfl,hlo,hhi,hbr⟩:=hrel;have HLO:=zH hlo;clear hlo;have HHI:=zH hhi;clear hhi;by_cases hlt:i<j
  ·have hjL:j≤l.length:=by have:=HL.out;omega
   obtain⟨h,hh⟩:∃h:Nat,((i:Int)+j)/2=h:=⟨(i+j)/2,by omega⟩;(obtain⟨hih,hhj,hhL⟩:i≤h∧h<j∧h<l.length:=by omega);obtain⟨b,off,rfl,hbb,_⟩:=(HS.out.below hbr (zN _)) (by omega);have HR:=zH ((HS.out.below hbr (zN _)).range HE.out h hhL);have HF:=zH (HC.out wr l[h] (zP hhL) hbr);have HX:=zH (HE.out l[h]);have HLO2:=zH (fun(hf:f l[h]<0) m (hm:m<l.length) (hmh:m<h+1)=>(HM.out m h hm hhL (by omega) hf:f l[m]<0));have HHI2:=zH (fun(hf:¬f l[h]<0) m (hm:m<l.length) (hmh:h≤m)=>(by
    (refine Int.not_lt.1 fun hx=>hf ?_);exact HM.out h m hhL hm hmh hx:0≤f l[m]))
   generalize f l[h]=fv at*;generalize E l[h]=ev at*;(obtain⟨q1,q2⟩:(i:Int)+j≤2000000∧(h:Int)<n:=by omega);(go_wp2_with (refine wpList_load_mid rfl 225 (.tmp 27) rfl b (off+h*2) rfl ev _ HR.out Tryz.underlying225 rfl (by rw[HX.out];kernel_rfl) ?_));refine HF.out.mono ?_;rintro e w2 ⟨rfl,hb2⟩;have hb3:=hbr.trans (hb2.mono hbr.size);clear HR HF;by_cases hf:fv<0
   ·have H1:=zH (HLO2.out hf);(go_wp2_with fail);go_roundw
    case rel=>exact⟨h+1,j,by omega,hjn,by go_num,rfl,H1.out,HHI.out,hb3⟩
    case measure=>simp [intOf];omega
   ·have H1:=zH (HHI2.out (by omega));(go_wp2_with fail);go_roundw
    case rel=>exact⟨i,h,hih,by omega,rfl,by go_num,HLO.out,H1.out,hb3⟩
    case measure=>simp [intOf];omega
  ·obtain rfl:i=j:=by omega
   clear hij hlt;by_cases hin:i<n
   ·(have hiL:i<l.length:=by have:=HL.out;omega);obtain⟨b,off,rfl,hbb,_⟩:=(HS.out.below hbr (zN _)) (by omega);have HR:=zH ((HS.out.below hbr (zN _)).range HE.out i hiL);have HF:=zH (HC.out wr l[i] (zP hiL) hbr);have HX:=zH (HE.out l[i]);have HP:=zH (fun w' (hb:Below w.heap.size w w')=>(⟨i,by omega,HLO.out,HHI.out,by rw[dif_pos hiL],hb⟩:SrchPostSB f l w (.returned (.tuple #[.int .i64 i,.bool (decide (f l[i]=0))])) w'));generalize f l[i]=fv at*;generalize E l[i]=ev at*;(have q2:(i:Int)<n:=by omega);(go_wp2_with (refine wpList_load_row_g rfl 225 (.tmp 43) rfl b (off+i*2) rfl ev _ HR.out Tryz.underlying225 rfl (by rw[HX.out];kernel_rfl) ?_));refine HF.out.mono ?_;rintro e w2 ⟨rfl,hb2⟩;have hb3:=hbr.trans (hb2.mono hbr.size);have HQ:=zH (HP.out w2 hb3);have hbq:(fv==0)=decide (fv=0):=rfl;(go_wp2_with fail);(go_ret2);exact HQ.out
   ·(obtain rfl:i=n:=by omega);have HP:=zH (fun w' (hb:Below w.heap.size w w')=>(⟨i,by have:=HL.out;omega,HLO.out,HHI.out,by rw[dif_neg (by have:=HL.out;omega)],hb⟩:SrchPostSB f l w (.returned (.tuple #[.int .i64 i,.bool false])) w'));(go_wp2_with fail);(go_ret2);exact HP.out _ hbr
def eCSB (e:ByteArray×Bool):List Value:=[.string e.1,.bool e.2]
theorem eCSB_len (e:ByteArray×Bool):(eCSB e).length=2:=rfl
theorem eCSB_one (e:ByteArray×Bool):∀u∈eCSB e,u.oneCell'=true:=by
 intro u hu;simp only[eCSB,List.mem_cons,List.mem_append,List.not_mem_nil,or_false] at hu;rcases hu with rfl | rfl<;>rfl
abbrev ordFSB:Value:= .func (.func 47) #[] #[]
structure SMapSB (w:World) (bm:Nat) (xs:List (ByteArray×Bool)):Prop where
 row:∃v,Blk w bm 221 #[ordFSB,v]∧w.ownsRow 0 225 2 v xs.length (xs.flatMap eCSB)
 up:Up ordS xs
 ok:∀e∈xs,okS e.1
theorem find1SB_any (w:World)(g bm:Nat)(e:ByteArray×Bool)(k:ByteArray)(he:okS e.1)(hk:okS k)(hg:w.cell? ⟨g,0,none⟩=some (.pointer (some ⟨bm,0,none⟩)))(hm:w.cell? ⟨bm,0,none⟩=some ordFSB):
  Calls Tryz.prog 201 #[.agg (eCSB e).toArray,Value.string k,.pointer (some ⟨g,0,none⟩)] w fun r w'=>r= .returned (.int .i64 (ordS e.1 k))∧Below w.heap.size w w':=by
 have HO:=zH (fun W=>orderS_any W e.1 k he hk);have hB:=Blk.new w 225 (eCSB e).toArray;have hb1:=(zR w.heap.size w).alloc (zN _) (.cells (eCSB e).toArray 225);have hgl:=World.block_lt_of_cell? w _ hg;have hml:=World.block_lt_of_cell? w _ hm;have hg1:=(hb1.cell (p:=⟨g,0,none⟩) hgl).trans hg;have hm1:=(hb1.cell (p:=⟨bm,0,none⟩) hml).trans hm;have hlt:=hB.lt;have hk0:(w.alloc (.cells (eCSB e).toArray 225)).cell? ⟨w.heap.size,0,none⟩=some (Value.string e.1):=hB.cell 0;clear hg hm hB;generalize ordS e.1 k=r at*;have l1:∀m:Held (Aft (w.alloc (.cells (eCSB e).toArray 225))),(HeldW m).cell? ⟨g,0,none⟩=some (.pointer (some ⟨bm,0,none⟩)):=fun m=>(Aft.cell m (p:=⟨g,0,none⟩) (zQ hgl hb1.size)).trans hg1
 have l2:∀m:Held (Aft (w.alloc (.cells (eCSB e).toArray 225))),(HeldW m).cell? ⟨bm,0,none⟩=some ordFSB:=fun m=>(Aft.cell m (p:=⟨bm,0,none⟩) (zQ hml hb1.size)).trans hm1
 have l3:∀m:Held (Aft (w.alloc (.cells (eCSB e).toArray 225))),(HeldW m).cell? ⟨w.heap.size,0,none⟩=some (Value.string e.1):=fun m=>(Aft.cell m (p:=⟨w.heap.size,0,none⟩) hlt).trans hk0
 have HB1:=zH hb1;clear hb1 hg1 hm1 hk0
 haveI:=Aft.some (w.alloc (.cells (eCSB e).toArray 225))
 generalize (eCSB e).toArray=ec at*;go_enter Tryz.func201,Tryz.ntmps201
 go_wp2_with fail
 refine wp_region_class (Aft (w.alloc (.cells ec 225))) (by kernel_rfl) (by kernel_rfl) (Aft.start _) ?_;repeat (go_big_quiet_step (with_reducible exact held_below Aft.keep (HO.out _)))
 refine wpQuiet_nil ?_;rintro _ ⟨nn,rfl⟩;have HW:Hid (Below (w.alloc (.cells ec 225)).heap.size (w.alloc (.cells ec 225)) (HeldW nn)):=zH (HeldW_spec nn);go_wp2_with fail
 go_ret;exact⟨rfl,HB1.out.trans (HW.out.mono HB1.out.size)⟩
def InsPostSB (base n:Nat) (xs:List Value) (row:Option Nat) (w:World) (e:Ending) (w':World):Prop:=
 ∃g cap,e= .returned (.slice (some ⟨g,0,none⟩) (n+1) cap)∧w'.ownsRow base 225 2 (.slice (some ⟨g,0,none⟩) (n+1) cap) (n+1) xs∧w.grownBy w' row∧(row=some g∨w.heap.size≤g)
theorem slInsertSB_end (w:World)(base:Nat)(v:Value)(n vb:Nat)(xs:List Value)(te:TypeId)(cx:Array Value)(hown:w.ownsRow base 225 2 v n xs)(hvb:Blk w vb te cx)(hcx:cx.size=2)(h1x:∀u∈cx.toList,u.oneCell'=true)(hn:n+1≤1000000)(hbase:base≤w.heap.size):
  Calls Tryz.prog 171 #[v,.int .i64 n,.slice (some ⟨vb,0,none⟩) 1 1] w (InsPostSB base n (xs++cx.toList) v.ownBlock w):=by
 have hfin:∀g cap w',w'.ownsRow base 225 2 (.slice (some ⟨g,0,none⟩) (n+1) cap) (n+1) (xs++cx.toList)→w.grownBy w' v.ownBlock→(v.ownBlock=some g∨g=w.heap.size)→
   InsPostSB base n (xs++cx.toList) v.ownBlock w (.returned (.slice (some ⟨g,0,none⟩) (n+1) cap)) w':=fun g cap w' h1 h2 h3=>⟨g,cap,rfl,h1,h2,by rcases h3 with h | h;exact .inl h;exact .inr (by omega)⟩
 have HF:=zH hfin;clear hfin;have HO:=zH hown;have HB:=zH hvb;clear hvb;rcases hown.2 with ⟨rfl,rfl⟩ | ⟨g,cap,cur,rfl,hbg,hg,hnc,hcm,hcs,htk⟩
 ·clear hown;go_enter Tryz.func171,Tryz.ntmps171
  go_wp2_with (at_builtin;refine wpList_app rfl _ _ 219 rfl base 225 _ _ _ Tryz.underlying219 infoESB rfl (by decide) _ 0 xs rfl HO.out vb 1 cx te rfl HB.out hcx h1x (by omega) (by decide) hbase _ rfl ?_;intro g cap w1 hown1 hgrow1 hat hlt)
  have HP:=zH (HF.out g cap w1 hown1 hgrow1 hat);clear hown1 hgrow1 hat;go_wp2_with fail
  go_ret;exact HP.out
 ·clear hown htk hg hcs;unfold maxLen at hcm;go_enter Tryz.func171,Tryz.ntmps171
  go_wp2_with (at_builtin;refine wpList_app rfl _ _ 219 rfl base 225 _ _ _ Tryz.underlying219 infoESB rfl (by decide) _ n xs rfl HO.out vb 1 cx te rfl HB.out hcx h1x (by omega) (by decide) hbase _ rfl ?_;intro g cap w1 hown1 hgrow1 hat hlt)
  all_goals
   have HP:=zH (HF.out _ _ w1 hown1 hgrow1 hat);clear hown1 hgrow1 hat;(go_wp2_with fail);go_ret;exact HP.out
theorem slInsertSB_room (w:World)(base g cap n i vb:Nat)(cur:Array Value)(te:TypeId)(cx:Array Value)(hbg:base≤g)(hg:Blk w g 225 cur)(hcs:cur.size=cap*2)(h1c:∀u∈cur.toList.take (n*2),u.oneCell'=true)(hvb:Blk w vb te cx)(hne:vb≠g)(hcx:cx.size=2)(h1x:∀u∈cx.toList,u.oneCell'=true)(hi:i<n)(hroom:n+1≤cap)(hcm:cap≤maxLen):
  Calls Tryz.prog 171 #[.slice (some ⟨g,0,none⟩) n cap,.int .i64 i,.slice (some ⟨vb,0,none⟩) 1 1] w
   (InsPostSB base n (cur.toList.take (i*2)++cx.toList++(cur.toList.take (n*2)).drop (i*2)) (some g) w):=by
 have hov:∀lb cb W,Blk W g 225 cur→Blk W vb te cx→(callFunc 202 #[.slice (some ⟨vb,0,none⟩) 1 1,.slice (some ⟨g,(i+1)*2,none⟩) lb cb]).run Tryz.prog W= .ok (.value (.bool false)) W:=fun lb cb W h1 h2=>by
  rw[run_callFunc_extern Tryz.func202 (by kernel_rfl) (by kernel_rfl) (by kernel_rfl) (e:=Extern.SlicesOverlaps.overlaps #[219,219] #[4]) (by kernel_rfl),
   Lib.run_overlaps_apart W 219 4 225 Tryz.underlying219 2 Tryz.sizeOf225 ⟨vb,0,none⟩ ⟨g,(i+1)*2,none⟩ 1 1 lb cb hne te 225 cx.size cur.size h2.shape h1.shape (by rw[hcs];omega) (h2.frozen 0) (h2.frozen cx.size)]
  rfl
 unfold maxLen at hcm;have hc1:cur.toList.length=cap*2:=by rw[Array.length_toList];exact hcs
 obtain⟨q1,q2,q3,q4⟩:=ins_cells cur.toList cx.toList (i*2) (n*2) 2 (by omega) (by omega) (by simpa using hcx);obtain⟨cs,hcsd⟩:∃cs,(cur.toList.take (n*2)).drop (i*2)=cs:=⟨_,rfl⟩;simp only[hcsd] at q1 q2 q3 q4;rw[hcsd];obtain⟨W1,hW1⟩:∃W1,w.drew.setRow g (cur.toList.take ((i+1)*2)++cs++cur.toList.drop ((i+1)*2+cs.length)).toArray=W1:=⟨_,rfl⟩;have hcp1:∀ty dc sc,(Builtin.copy_ #[219,219] ty #[.slice (some ⟨g,(i+1)*2,none⟩) (n-i) dc,.slice (some ⟨g,i*2,none⟩) (n+1-i) sc]).run Tryz.prog w.drew= .ok (goInt (n-i:Nat)) W1:=fun ty dc sc=>by
  rw[←hW1];refine run_copy_rows w.drew _ _ ty 225 2 g _ _ dc _ _ sc cur 225 cs (n-i) Tryz.underlying219 (by kernel_rfl) hg.drew (by simp only[Nat.min_def];split<;>omega) (by rw[q4];omega) (fun j v hj=>?_) (by rw[q4];omega) (fun v hv=>h1c v ?_)
  ·refine hg.drew.at _ j v ?_;rw[←hcsd] at hj;rw[List.getElem?_drop,List.getElem?_take] at hj;split at hj
   ·rw[List.getElem?_drop];exact hj
   ·cases hj
  ·rw[←hcsd] at hv;exact List.mem_of_mem_drop hv
 have hg1:Blk W1 g 225 (cur.toList.take ((i+1)*2)++cs++cur.toList.drop ((i+1)*2+cs.length)).toArray:=by rw[←hW1];exact hg.drew.setRow _
 have hgr1:w.grownBy W1 (some g):=by rw[←hW1];exact grown_of_drew (grown_setRow _ _ _)
 have hvb1:Blk W1 vb te cx:=hvb.grown hgr1 (by simpa using hne);rw[show i*2+2=(i+1)*2 by omega] at q1 q2 q3;generalize hr1:cur.toList.take ((i+1)*2)++cs++cur.toList.drop ((i+1)*2+cs.length)=r1 at*;obtain⟨W2,hW2⟩:∃W2,W1.setRow g (r1.take (i*2)++cx.toList++r1.drop (i*2+cx.toList.length)).toArray=W2:=⟨_,rfl⟩;have hcp2:∀ty dc,(Builtin.copy_ #[219,219] ty #[.slice (some ⟨g,i*2,none⟩) (n+1-i) dc,.slice (some ⟨vb,0,none⟩) 1 1]).run Tryz.prog W1= .ok (goInt (1:Nat)) W2:=fun ty dc=>by
  rw[←hW2];have:=run_copy_rows (P:=Tryz.prog) W1 219 219 ty 225 2 g (i*2) (n+1-i) dc ⟨vb,0,none⟩ 1 1 r1.toArray 225 cx.toList 1 Tryz.underlying219 (by kernel_rfl) hg1 (by simp only[Nat.min_def];split<;>omega) (by simpa using hcx) (World.news_of_block hvb1) (by rw[List.size_toArray,q3,Array.length_toList];omega) h1x
  simpa using this
 have hg2:Blk W2 g 225 (r1.take (i*2)++cx.toList++r1.drop (i*2+cx.toList.length)).toArray:=by rw[←hW2];exact hg1.setRow _
 have hgr2:w.grownBy W2 (some g):=by rw[←hW2];exact grown_trans hgr1 (grown_setRow _ _ _)
 have hfin:InsPostSB base n (cur.toList.take (i*2)++cx.toList++cs) (some g) w (.returned (.slice (some ⟨g,0,none⟩) (n+1) cap)) W2:=
  ⟨g,cap,rfl,own_mk hbg hg2 hroom (by unfold maxLen;omega) (by rw[List.size_toArray,q2,hc1]) (by rw[List.toList_toArray,←q1];congr 1;omega),hgr2,.inl rfl⟩
 have HF:=zH hfin;clear hfin;clear hgr1 hgr2 hg2 hg1 hvb1 hW1 hW2 q1 q2 q3 q4 hcsd hc1 hr1 h1c h1x;have HV:=zH (fun lb cb=>hov lb cb w hg hvb);clear hov;have hz1:¬((i:Int)=(n:Int)):=by omega
 have hw1:IntKind.i64.wrap ((i:Int)+1)=(i:Int)+1:=by rw[IntKind.wrap_i64];omega
 obtain⟨hb1,hin,htn,hb2,hb3,hb4,hb5⟩:(0:Int)≤(i:Int)+1∧i≤n∧((i:Int)+1).toNat=i+1∧¬(cap=i+1)∧(i:Int)≤(n:Int)+1∧¬(cap=i)∧¬(cap:Int)<n+1:=by omega
 clear hcs;go_enter Tryz.func171,Tryz.ntmps171
 go_wp2_with (simp only[HV.out])
 go_region_law (refine step_copy_rows rfl _ _ 219 219 rfl _ _ (by simp [Act.eval,Act.put]) (by simp [Act.eval,Act.put]) (hcp1 _ _ _) ?_)
 go_wp2_with (at_builtin;refine wpList_copy_rows _ rfl _ _ 219 219 rfl _ _ rfl rfl (hcp2 _ _) ?_)
 go_ret;exact HF.out
theorem slInsertSB_grow (w:World)(base g cap n i vb:Nat)(cur:Array Value)(te:TypeId)(cx:Array Value)(hg:Blk w g 225 cur)(hcs:cur.size=cap*2)(h1c:∀u∈cur.toList.take (n*2),u.oneCell'=true)(hvb:Blk w vb te cx)(hcx:cx.size=2)(h1x:∀u∈cx.toList,u.oneCell'=true)(hi:i<n)(hnc:n≤cap)(hroom:cap<n+1)(hn:n+1≤1000000)(hbase:base≤w.heap.size):
  Calls Tryz.prog 171 #[.slice (some ⟨g,0,none⟩) n cap,.int .i64 i,.slice (some ⟨vb,0,none⟩) 1 1] w
   (InsPostSB base n (cur.toList.take (i*2)++cx.toList++(cur.toList.take (n*2)).drop (i*2)) (some g) w):=by
 obtain rfl:cap=n:=by omega
 obtain⟨i0,hi0,hz0,hzs,hzb⟩:=info_parts infoESB;have hc1:cur.toList.length=cap*2:=by rw[Array.length_toList];exact hcs
 have htk:cur.toList.take (cap*2)=cur.toList:=zO (by omega);rw[htk] at h1c⊢;have hold:(Builtin.firstCells i0.size i (.slice (some ⟨g,0,none⟩) i cap)).run Tryz.prog w.drew= .ok (cur.toList.take (i*2)).toArray w.drew:=by
  rw[hzs];exact run_firstCells_some w.drew 2 i ⟨g,0,none⟩ i cap (cur.toList.take (i*2)) (by rw[zL];omega) (fun j v hj=>by
   refine hg.drew.at 0 j v ?_;rw[List.getElem?_take] at hj;split at hj
   ·rw[List.drop_zero];exact hj
   ·cases hj)
 obtain⟨G,hG⟩:∃G,grownCap w (cap+1) cap 225=G:=⟨_,rfl⟩;have hGn:cap+1≤G:=by rw[←hG];exact grownCap_ge w _ _ _
 have hG63:G≤maxLen:=by rw[←hG];exact grownCap_le_maxLen w (cap+1) cap 225 (by unfold maxLen;omega)
 obtain⟨R,hR⟩:∃R:Array Value,(cur.toList.take (i*2)).toArray++Builtin.zeroCells (Value.cells (.agg #[.string ⟨#[]⟩,.bool false])) (cap+1-i)++Builtin.zeroCells (Value.cells (.agg #[.string ⟨#[]⟩,.bool false])) (G-(cap+1))=R:=⟨_,rfl⟩;have hRl:R.size=G*2:=by
  rw[←hR];simp only[Array.size_append,List.size_toArray,zL,size_zeroCells,hc1];simp [Value.cells]
  omega
 have hRL:R.toList.length=G*2:=by rw[Array.length_toList,hRl]
 have hRt:R.toList.take (i*2)=cur.toList.take (i*2):=by
  rw[←hR,Array.toList_append,Array.toList_append,List.toList_toArray,zV,List.take_append_of_le_length (by rw[zL];omega),List.take_take,Nat.min_self]
 obtain⟨W0,hW0⟩:∃W0,w.drew.alloc (.cells R 225)=W0:=⟨_,rfl⟩;have hrz:∀ty,(Builtin.append_ #[219,3] ty #[.slice (some ⟨g,0,none⟩) i cap,.int .i64 ((cap:Int)+1-(i:Int))]).run Tryz.prog w= .ok (.slice (some ⟨w.heap.size,0,none⟩) (cap+1) G) W0:=fun ty=>by
  have hik:i+(cap+1-i)=cap+1:=by omega
  have h:=Lib.run_append_grow_zeros w 219 3 ty 225 i0 _ .i64 .i64 Tryz.underlying219 Tryz.underlying3 hi0 hz0 (some ⟨g,0,none⟩) i cap (cur.toList.take (i*2)) hold (cap+1-i) (by omega) (by omega) (by omega) (by omega) (by rw[hzb];omega) (by rw[hzb,hik];exact growslice_fits (by omega) (by omega));rw[hik] at h;rw[show(cap:Int)+1-(i:Int)=((cap+1-i:Nat):Int) by omega,h,hG,hR,hW0]
 have hb0:Below w.heap.size w W0:=by rw[←hW0];exact((zR _ w).drew).alloc (zN _) _
 have hg0:Blk W0 w.heap.size 225 R:=by rw[←hW0];exact Blk.new w.drew _ _
 have hgl:=hg.lt;have hvl:=hvb.lt;have hga:Blk W0 g 225 cur:=hg.below hb0 hgl;have hva:Blk W0 vb te cx:=hvb.below hb0 hvl;have hdl:(cur.toList.drop (i*2)).length=(cap-i)*2:=by rw[List.length_drop];omega
 obtain⟨p1,p2,p3⟩:=ins_cells2 R.toList cx.toList (cur.toList.drop (i*2)) (i*2) 2 (by rw[hdl,Array.length_toList,hRl];omega) (by simpa using hcx);generalize hr1:R.toList.take (i*2)++cx.toList++R.toList.drop (i*2+cx.toList.length)=r1 at*;obtain⟨W1,hW1⟩:∃W1,W0.setRow w.heap.size r1.toArray=W1:=⟨_,rfl⟩;have hcp1:∀ty dc,(Builtin.copy_ #[219,219] ty #[.slice (some ⟨w.heap.size,i*2,none⟩) (cap+1-i) dc,.slice (some ⟨vb,0,none⟩) 1 1]).run Tryz.prog W0= .ok (goInt (1:Nat)) W1:=fun ty dc=>by
  rw[←hW1,←hr1];exact run_copy_rows (P:=Tryz.prog) W0 219 219 ty 225 2 w.heap.size (i*2) (cap+1-i) dc ⟨vb,0,none⟩ 1 1 R 225 cx.toList 1 Tryz.underlying219 (by kernel_rfl) hg0 (by simp only[Nat.min_def];split<;>omega) (by simpa using hcx) (World.news_of_block hva) (by rw[hRl,Array.length_toList,hcx];omega) h1x
 have hg1:Blk W1 w.heap.size 225 r1.toArray:=by rw[←hW1];exact hg0.setRow _
 have hb1:Below w.heap.size w W1:=by rw[←hW1];exact hb0.grown (grown_setRow _ _ _) hb0.size (fun k hk=>by cases hk;exact zN _)
 have hga1:Blk W1 g 225 cur:=hg.below hb1 hgl;obtain⟨W2,hW2⟩:∃W2,W1.drew.setRow w.heap.size (r1.take ((i+1)*2)++cur.toList.drop (i*2)++r1.drop ((i+1)*2+(cur.toList.drop (i*2)).length)).toArray=W2:=⟨_,rfl⟩;have hcp2:∀ty dc sc,(Builtin.copy_ #[219,219] ty #[.slice (some ⟨w.heap.size,(i+1)*2,none⟩) (cap-i) dc,.slice (some ⟨g,i*2,none⟩) (cap-i) sc]).run Tryz.prog W1.drew= .ok (goInt (cap-i:Nat)) W2:=fun ty dc sc=>by
  rw[←hW2];have:=run_copy_rows (P:=Tryz.prog) W1.drew 219 219 ty 225 2 w.heap.size ((i+1)*2) (cap-i) dc ⟨g,i*2,none⟩ (cap-i) sc r1.toArray 225 (cur.toList.drop (i*2)) (cap-i) Tryz.underlying219 (by kernel_rfl) hg1.drew (by simp only[Nat.min_def];split<;>omega) hdl (hga1.drew.at _) (by rw[List.size_toArray,p3,hRL];omega) (fun v hv=>h1c v (List.mem_of_mem_drop hv))
  simpa using this
 have hg2:Blk W2 w.heap.size 225 (r1.take ((i+1)*2)++cur.toList.drop (i*2)++r1.drop ((i+1)*2+(cur.toList.drop (i*2)).length)).toArray:=by rw[←hW2];exact hg1.drew.setRow _
 have hb2:Below w.heap.size w W2:=by rw[←hW2];exact(below_drewN hb1 1).grown (grown_setRow _ _ _) hb1.size (fun k hk=>by cases hk;exact zN _)
 rw[show i*2+2=(i+1)*2 by omega] at p1 p2;rw[hRt] at p1;have hfin:InsPostSB base cap (cur.toList.take (i*2)++cx.toList++cur.toList.drop (i*2)) (some g) w (.returned (.slice (some ⟨w.heap.size,0,none⟩) (cap+1) G)) W2:=
  ⟨w.heap.size,G,rfl,own_mk hbase hg2 hGn hG63 (by rw[List.size_toArray,p2,Array.length_toList,hRl]) (by rw[List.toList_toArray,←p1];congr 1;rw[hdl];omega),⟨hb2.os,hb2.tape,hb2.output,hb2.size,fun k hk _=>hb2.block k hk⟩,.inr (zN _)⟩
 have HF:=zH hfin;clear hfin;clear hb2 hg2 hb1 hg1 hga1 hb0 hg0 hga hva hW0 hW1 hW2 p1 p2 p3 hdl hr1 hRt hRl hR hG hold hi0 hz0 hzs hzb h1c h1x htk hc1 hg hvb hcs;unfold maxLen at hG63;have hz1:¬((i:Int)=(cap:Int)):=by omega
 have hw1:IntKind.i64.wrap ((i:Int)+1)=(i:Int)+1:=by rw[IntKind.wrap_i64];omega
 obtain⟨hb1,hin,htn,hb2,hb3,hb4,hb5,hG1,hG2⟩:(0:Int)≤(i:Int)+1∧i≤cap∧((i:Int)+1).toNat=i+1∧(¬(cap=i+1)∨cap=i+1)∧(i:Int)≤(cap:Int)+1∧¬(cap=i)∧(cap:Int)<cap+1∧¬(G=i)∧¬(G=i+1):=by omega
 clear hb2;go_enter Tryz.func171,Tryz.ntmps171
 go_wp2_with (first
  | (at_builtin;refine Lib.wpList_append_run _ rfl _ _ _ _ rfl _ _ rfl rfl _ _ (hrz _) ?_)
  | (at_builtin;refine wpList_copy_rows _ rfl _ _ 219 219 rfl _ _ rfl rfl (hcp1 _ _) ?_))
 go_region_law (refine step_copy_rows rfl _ _ 219 219 rfl _ _ (by simp [Act.eval,Act.put]) (by simp [Act.eval,Act.put]) (hcp2 _ _ _) ?_)
 go_wp2_with fail
 go_ret;exact HF.out
theorem slInsertSB_any (w:World)(base:Nat)(v:Value)(n i vb:Nat)(xs:List Value)(te:TypeId)(cx:Array Value)(hown:w.ownsRow base 225 2 v n xs)(h1c:∀u∈xs,u.oneCell'=true)(hvb:Blk w vb te cx)(hne:v.ownBlock≠some vb)(hcx:cx.size=2)(h1x:∀u∈cx.toList,u.oneCell'=true)(hi:i≤n)(hn:n+1≤1000000)(hbase:base≤w.heap.size):
  Calls Tryz.prog 171 #[v,.int .i64 i,.slice (some ⟨vb,0,none⟩) 1 1] w (InsPostSB base n (xs.take (i*2)++cx.toList++xs.drop (i*2)) v.ownBlock w):=by
 by_cases hin:i=n
 ·subst hin;have hl:=hown.1;rw[zO (by omega),List.drop_of_length_le (by omega),List.append_nil];exact slInsertSB_end w base v i vb xs te cx hown hvb hcx h1x hn hbase
 ·obtain⟨g,cap,cur,rfl,hbg,hg,h1,h2,h3,h4⟩:=own_form hown (by omega);subst h4;have ht:∀k,k≤n→(cur.toList.take (n*2)).take (k*2)=cur.toList.take (k*2):=fun k hk=>by rw[List.take_take];congr 1;omega
  rw[ht i (by omega)];have hneg:vb≠g:=fun e=>hne (by rw[e];rfl)
  by_cases hroom:n+1≤cap
  ·exact slInsertSB_room w base g cap n i vb cur te cx hbg hg h3 h1c hvb hneg hcx h1x (by omega) hroom h2
  ·exact slInsertSB_grow w base g cap n i vb cur te cx hg h3 h1c hvb hcx h1x (by omega) h1 (by omega) hn hbase
section
variable {w w':World} {bm:Nat} {xs:List (ByteArray×Bool)}
theorem SMapSB.ord (h:SMapSB w bm xs):w.cell? ⟨bm,0,none⟩=some ordFSB:=by obtain⟨v,hb,_⟩:=h.row;exact hb.cell 0
theorem own_grown_typSB {w w':World}{base:Nat}{e:TypeId}{size n:Nat}{v:Value}{l:List Value}(h:w.ownsRow base e size v n l){g:Nat}{t:TypeId}{cs:Array Value}(hg:w.grownBy w' (some g))(hB:Blk w g t cs)(hne:e≠t):w'.ownsRow base e size v n l:=
 h.kept hg (by
  rcases h.2 with ⟨rfl,_⟩ | ⟨g',cap,cur,rfl,_,hg',_⟩
  ·exact .inl rfl
  ·right
   intro he;(have:g'=g:=by simpa [Value.ownBlock] using he);subst this;exact Blk.other (hg':Blk w g' e cur) hB hne rfl)
theorem SMapSB.below (h:SMapSB w bm xs)(hb:Below w.heap.size w w'):SMapSB w' bm xs:=by
 obtain⟨v,hB,ho⟩:=h.row;exact⟨⟨v,hB.below hb hB.lt,own_kept ho hb⟩,h.up,h.ok⟩
theorem flat1SB (xs:List (ByteArray×Bool)):∀u∈xs.flatMap eCSB,u.oneCell'=true:=fun u hu=>by
 rw[List.mem_flatMap] at hu;obtain⟨x,_,hx⟩:=hu;exact eCSB_one x u hx
end
theorem srtNewSB_any (w:World):
  Calls Tryz.prog 131 #[ordFSB] w fun e w'=>∃bm,e= .returned (.pointer (some ⟨bm,0,none⟩))∧SMapSB w' bm []∧w.heap.size≤bm∧Below w.heap.size w w':=by
 have hB:=Blk.new w 221 #[ordFSB,.slice none 0 0];have hb1:=(zR w.heap.size w).alloc (zN _) (.cells #[ordFSB,.slice none 0 0] 221);have HF:=zH (⟨⟨_,hB,World.ownsRow_nil _ 0 225 2⟩,List.Pairwise.nil,fun e he=>by cases he⟩:SMapSB _ w.heap.size []);have HB:=zH hb1;clear hb1 hB;have hnf:∀W,(binOp .eql 108 ordFSB Value.nilFunc).run Tryz.prog W= .ok (.bool false) W:=fun W=>by kernel_rfl
 go_enter Tryz.func131,Tryz.ntmps131
 go_wp2_with fail
 go_ret;exact⟨_,rfl,HF.out,zN _,HB.out⟩
def FindPostSB (k:ByteArray) (xs:List (ByteArray×Bool)) (w:World) (e:Ending) (w':World):Prop:=
 e= .returned (.tuple #[.int .i64 (lbN ordS k xs),.bool (inN ordS k xs)])∧Below w.heap.size w w'
theorem srtFindSB_any (w:World)(bm:Nat)(xs:List (ByteArray×Bool))(k:ByteArray)(h:SMapSB w bm xs)(hn:xs.length≤1000000)(hk:okS k):
  Calls Tryz.prog 169 #[.pointer (some ⟨bm,0,none⟩),Value.string k] w (FindPostSB k xs w):=by
 obtain⟨v,hb,ho⟩:=h.row;have hord:=h.ord;have hB:=Blk.new w 190 #[.pointer (some ⟨bm,0,none⟩)];have hb1:=(zR w.heap.size w).alloc (zN _) (.cells #[.pointer (some ⟨bm,0,none⟩)] 190);have hg1:(w.alloc (.cells #[.pointer (some ⟨bm,0,none⟩)] 190)).cell? ⟨w.heap.size,0,none⟩=some (.pointer (some ⟨bm,0,none⟩)):=hB.cell 0;have hbl:=hb.lt;have hm0:=(hb1.cell (p:=⟨bm,0,none⟩) hbl).trans hord;have hm1:(w.alloc (.cells #[.pointer (some ⟨bm,0,none⟩)] 190)).cell? ⟨bm,1,none⟩=some v:=(hb1.cell (p:=⟨bm,1,none⟩) hbl).trans (hb.cell 1);have hsz:=hB.lt;obtain⟨A,c,rfl,hc1,hc2,hsl⟩:=SlV.of_own (own_kept ho hb1) eCSB_len (by decide);have HS:=zH (slSearchSB_any eCSB eCSB_len (fun e=>ordS e.1 k) (w.alloc (.cells #[.pointer (some ⟨bm,0,none⟩)] 190)) A xs.length c w.heap.size xs (Value.string k) rfl hn hsl
  (fun a b ha hb' hab hlt=>by
   rcases Nat.lt_or_ge a b with h1 | h1
   ·exact ordS_ord.trans _ _ _ (List.pairwise_iff_getElem.1 h.up a b ha hb' h1) hlt
   ·(obtain rfl:a=b:=by omega);exact hlt)
  (fun W x hx hbW=>find1SB_any W w.heap.size bm x k (h.ok x hx) hk ((hbW.cell (p:=⟨w.heap.size,0,none⟩) hsz).trans hg1) ((hbW.cell (p:=⟨bm,0,none⟩) (zQ hbl hb1.size)).trans hm0)))
 have hv1:w.cell? ⟨bm,1,none⟩=some (.slice A xs.length c):=hb.cell 1;have HF:=zH (fun e w' (hp:SrchPostSB (fun e:ByteArray×Bool=>ordS e.1 k) xs (w.alloc (.cells #[.pointer (some ⟨bm,0,none⟩)] 190)) e w')=>(by
  obtain⟨i,hi,h1,h2,rfl,hbw⟩:=hp;have hl:=lbN_eq ordS_ord k xs i hi h1 h2;subst hl;refine⟨?_,hb1.trans (hbw.mono hb1.size)⟩;rw[inN_eq ordS_ord]:FindPostSB k xs w e w'))
 clear hb1 hB hb ho hord h hsl hm0 hm1 hg1 hsz;generalize xs.length=n at*;go_enter Tryz.func169,Tryz.ntmps169
 go_wp2_with fail
 refine HS.out.mono ?_;rintro e w2 hp;obtain⟨rfl,hb2⟩:=HF.out _ _ hp;clear hp HF HS;go_wp2_with fail
 go_ret2
 exact⟨rfl,hb2⟩
end Go.Proofs.YtnpehjgnplaabaaGreatDoor
namespace Go.Proofs.YtnpehjgnplaabaaGreatDoor
open Go Go.RowKit Go.Shelf
open Sw
attribute [local go_sem] Oper.semAt_some
theorem toldSB_tells (n:Nat)(hn:1≤n)(gb:Nat)(v:Value)(xs:List (ByteArray×Bool))(w:World)(hgb:Blk w gb 219 #[v])(hv:Lies w 225 2 eCSB v xs)(hl:xs.length≤1000000):
  SeqTells (fun _=>False) Fence.wide n Tryz.prog 223 #[.pointer (some ⟨gb,0,none⟩)] (fun x:ByteArray×Bool=> #[Value.string x.1,(Value.bool) x.2]) (KeepIt gb v) (fun ys=>ys=xs) (fun pre=>pre<+:xs) (fun pre=>pre<+:xs) w:=fun l J Jx W hW hJ hJx hY hJ0=>by
 have hB:=hgb.below hW hgb.lt;have hL:=hv.below hW;have c0:=hB.cell 0;simp at c0
 have hL2:=hL;obtain⟨A,c,rfl,hc1,hc2,_⟩:=hL2;have HB:=zH (zA hgb hB);clear hgb hB;have HL:=zH hL;clear hL;have HV:=zH hv;clear hv;have HJ:=zH hJ;clear hJ;have HY:=zH hY;clear hY;clear hJx;refine callsIn_of_wp Tryz.func223 rfl trivial ?_ rfl;simp only[Tryz.ntmps223,List.size_toArray,zI,List.length_nil,Nat.reduceAdd,Nat.reduceSub,Array.replicate_succ,Array.replicate_zero,List.push_toArray,List.append_toArray,List.nil_append,List.cons_append];gi_wp2
 gi_loopw [7] (fun iv wr=>∃k:Nat,iv= .int .i64 k∧k≤xs.length∧J (xs.take k) wr∧KeepIt gb (.slice A xs.length c) W wr) (fun iv _=>xs.length-(intOf iv).toNat)
 case atStart=>exact⟨0,rfl,Nat.zero_le _,hJ0,⟨zN _,rfl,fun _ _=>rfl⟩⟩
 case round=>
  obtain⟨k,rfl,hk,hJs,hK⟩:=hrel;by_cases hlt:k<xs.length
  ·have hLr:=HL.out.kept (fun g _ hg _=>hK.row g hg);obtain⟨A',c',hA,_,_,hsl⟩:=hLr.slv eCSB_len;obtain⟨rfl,rfl⟩:A=A'∧c=c':=by injection hA with e1 e2 e3;exact⟨e1,e3⟩
   obtain⟨b,off,rfl,hbb,hcs⟩:=hsl (by omega);have hr:=(hsl.range eCSB_len k hlt);have hJ1:=HJ.out _ wr (wr.alloc (.cells (eCSB xs[k]).toArray 225)) none hJs (grown_alloc (grown_refl wr none) _) (fun r h=>by cases h);have hK1:KeepIt gb (.slice (some ⟨b,off,none⟩) xs.length c) W (wr.alloc (.cells (eCSB xs[k]).toArray 225)):=hK.trans (.below ((zR wr.heap.size wr).alloc (zN _) _) (zQ HB.out.2.lt hK.size) (fun g hg=>by cases hg;exact hbb));(have htk:xs.take (k+1)=xs.take k++[xs[k]]:=by rw[zG hlt]);have hy:=HY.out (xs.take k) xs[k] _ hJ1 (by rw[←htk];exact List.take_prefix _ _);rw[←htk] at hy;generalize xs[k]=x at*;have HQ:=zH (zA hJ1 hK1);clear hJ1 hK1 hcs hJs hK hsl hLr htk;have q0:=hr 0 _ rfl;have q1:=hr 1 _ rfl;simp only[Nat.add_zero] at q0 q1;(have hki:(k:Int)<xs.length:=by omega);obtain⟨fn,tmps,assign,body,hyy,hR⟩:=hy;(try dsimp only at hyy);simp only[eCSB] at hyy hR;clear hr;(gi_wp2);refine hR.mono ?_;rintro e W3 (⟨rfl,hJ3,hk3⟩ | ⟨rfl,hJx3⟩)
   ·have hK3:=HQ.out.2.trans hk3;have HZ:=zH (zA hJ3 hK3);clear hJ3 hk3 hK3;(gi_wp2);go_roundw
    case rel=>exact⟨k+1,by go_num,by omega,HZ.out.1,HZ.out.2⟩
    case measure=>simp [intOf];omega
   ·(gi_wp2);refine bodyPost_ret (results_none rfl _ _ _) rfl ?_;exact⟨⟨_,rfl⟩,.inr ⟨_,List.take_prefix _ _,hJx3⟩⟩
  ·obtain rfl:k=xs.length:=by omega
   rw[List.take_length] at hJs;(gi_wp2);(go_end0);exact⟨⟨_,rfl⟩,.inl ⟨_,rfl,hJs⟩⟩
theorem toldSB_stops (n:Nat)(hn:1≤n)(gb:Nat)(v:Value)(xs:List (ByteArray×Bool))(w:World)(hgb:Blk w gb 219 #[v])(hv:Lies w 225 2 eCSB v xs)(hl:xs.length≤1000000):
  SeqStopsK Fence.wide n Tryz.prog 223 #[.pointer (some ⟨gb,0,none⟩)] (fun x:ByteArray×Bool=> #[Value.string x.1,(Value.bool) x.2]) (KeepIt gb v) (fun ys=>ys=xs) (fun pre=>pre<+:xs) xs.length w:=
 fun l J Jx W hW hJ hJx hY hJ0=>toldSB_tells n hn gb v xs w hgb hv hl l J Jx W hW (fun s A B row hs hg hr=>hJ s A B row hs hg (fun r e=>(hr r e).resolve_left id)) (fun s A B row hs hg hr=>hJx s A B row hs hg (fun r e=>(hr r e).resolve_left id))
  (fun pre x W1 h1 h2=>hY pre x W1 h1 (by obtain⟨r,hr⟩:=h2;rw[←hr];simp only[zF,List.length_singleton];omega)) hJ0
def SeqOfSB (xs:List (ByteArray×Bool)) (w:World) (e:Ending) (w':World):Prop:=
 ∃gb v,e= .returned (.func (.func 223) #[] #[.pointer (some ⟨gb,0,none⟩)])∧Blk w' gb 219 #[v]∧Lies w' 225 2 eCSB v xs∧w.heap.size≤gb∧(∀g,v.ownBlock=some g→g<w'.heap.size)∧Below w.heap.size w w'
theorem toldSB_any (w:World)(v:Value)(xs:List (ByteArray×Bool))(hv:Lies w 225 2 eCSB v xs)(hb:∀g,v.ownBlock=some g→g<w.heap.size):
  Calls Tryz.prog 204 #[v] w (SeqOfSB xs w):=by
 have hbl:Below w.heap.size w (w.alloc (.cells #[v] 219)):=(zR _ _).alloc (zN _) _;have HF:=zH (⟨w.heap.size,v,rfl,Blk.new _ _ _,hv.below hbl,zN _,fun g hg=>by have:=hb g hg;simp;omega,hbl⟩:SeqOfSB xs w (.returned (.func (.func 223) #[] #[.pointer (some ⟨w.heap.size,0,none⟩)])) (w.alloc (.cells #[v] 219)));obtain⟨A,c,rfl,_,_,_⟩:=hv;clear hb hbl;go_enter Tryz.func204,Tryz.ntmps204
 go_wp2_with fail
 go_ret;exact HF.out
theorem srtAllSB_any (w:World)(bm:Nat)(xs:List (ByteArray×Bool))(h:SMapSB w bm xs):
  Calls Tryz.prog 172 #[.pointer (some ⟨bm,0,none⟩)] w (SeqOfSB xs w):=by
 obtain⟨v,hb,ho⟩:=h.row;have hL:=Lies.of_own ho eCSB_len (by decide);have hlt:=fun g hg=>(ho.lt g hg).2
 obtain⟨A,c,rfl,_,_,_⟩:=SlV_of_any ho;have HT:=zH (toldSB_any w _ xs hL hlt);have hv1:w.cell? ⟨bm,1,none⟩=some (.slice A xs.length c):=hb.cell 1;clear hL hb ho h hlt;go_enter Tryz.func172,Tryz.ntmps172
 go_wp2_with fail
 refine HT.out.mono ?_;rintro e w1 ⟨gb,v,rfl,h1,h2,h3,h4,h5⟩;have HF:=zH (⟨gb,v,rfl,h1,h2,h3,h4,h5⟩:SeqOfSB xs w (.returned (.func (.func 223) #[] #[.pointer (some ⟨gb,0,none⟩)])) w1);clear h1 h2 h3 h4 h5 HT;go_wp2_with fail
 go_ret;exact HF.out
attribute [local go_sem] Oper.semAt_some
theorem infoKSB:(Tryz.prog.info? 9).map (fun i=>(i.zero,i.size,i.bytes))=some (some (.string ⟨#[]⟩),1,16):=by kernel_rfl
def KeysISB (T gb:Nat) (v:Value) (xs:List (ByteArray×Bool)) (pre:List (ByteArray×Bool)) (W:World):Prop:=T+1≤W.heap.size∧(∃o,Blk W T 34 #[o]∧W.ownsRow T 9 1 o pre.length (pre.map fun e=>Value.string e.1))∧Blk W gb 219 #[v]∧Lies W 225 2 eCSB v xs
theorem KeysISB.own (T gb:Nat)(v:Value)(xs:List (ByteArray×Bool)):Own (KeysISB T gb v xs):=fun _ A B row hs hg hr=>⟨zT hs.1 hg.size,by obtain⟨o,h1,h2⟩:=hs.2.1;exact⟨o,blk_ownF h1 hg hr,own_ownF h2 hg hr⟩,blk_ownF hs.2.2.1 hg hr,hs.2.2.2.ownF hg hr⟩
theorem keysSB_any (w:World)(bm:Nat)(xs:List (ByteArray×Bool))(h:SMapSB w bm xs)(hl:xs.length≤100000):
  Calls Tryz.prog 134 #[.pointer (some ⟨bm,0,none⟩)] w fun e w'=>∃u,e= .returned u∧w'.ownsRow w.heap.size 9 1 u xs.length (xs.map fun e=>Value.string e.1)∧Below w.heap.size w w':=by
 have hBa:Below w.heap.size w (w.alloc (.cells #[.slice none 0 0] 34)):=(zR _ w).alloc (zN _) _;have HA:=zH (srtAllSB_any _ bm xs (h.below hBa));refine callsIn_wide.1 (?_:CallsIn Fence.wide 9 _ _ _ _ _);refine callsIn_of_wp_marks Tryz.func134 rfl trivial ?_ rfl;simp only[Tryz.ntmps134,List.size_toArray,zI,List.length_nil,Nat.reduceAdd,Nat.reduceSub,Array.replicate_succ,Array.replicate_zero,List.push_toArray,List.append_toArray,List.nil_append,List.cons_append];gi_wp2
 refine⟨trivial,?_⟩;refine(callsIn_wide.2 HA.out).mono ?_;rintro e w2 ⟨gb,v,rfl,hgb2,hv2,hge,hvb,hb2⟩;have b1:=(Blk.new w 34 #[.slice none 0 0]).below hb2 (by simp);have hB:=hBa.trans (hb2.mono hBa.size);have hz:=hb2.size;simp only[World.size_alloc] at hz hge;gi_wp2
 obtain⟨T,hT⟩:∃T,T=w.heap.size:=⟨_,rfl⟩;rw[←hT] at b1 hB hz hge⊢;have hgl:=hgb2.lt;have HTE:=zH hT;clear hT;refine wpIn_rangeFunc_ownF rfl (by omega) (gf:=223) (lb:= #[.pointer (some ⟨gb,0,none⟩)]) rfl trivial (enters_of Tryz.func223 (by kernel_rfl) rfl)
  (toldSB_stops 8 (by omega) gb v xs w2 hgb2 hv2 (by omega)) KeepIt.trans (keepIt_b hgl hvb) (zR _ _) (fun _=>rfl)
  (fun pre W=>KeysISB T gb v xs pre W∧Below T w W)
  (fun _ _ _=>False)
  (OwnFrom.and (Own.from (KeysISB.own T gb v xs) _) (ownFrom_below (by have:=HTE.out;omega) (by omega)))
  (fun _ _ _ _ _ hs _ _=>hs)
  ⟨⟨by omega,⟨_,b1,World.ownsRow_nil _ _ _ _⟩,hgb2,hv2⟩,hB⟩
  ?a1 ?assign ?body ?done ?stop
 case assign=>
  intro l x W K hK;gi_wp2
  exact hK
 case body=>
  rintro l pre x W ⟨⟨hsz,⟨o,b1,ho⟩,hg,hL⟩,hB⟩ hlt;have m1:=b1.cell 0;have f1:=b1.frozen 0;simp at m1
  obtain⟨A3,c3,rfl,_,_,_⟩:=SlV_of_any ho;have HH:=zH (zA b1 (zA ho (zA hg (zA hL hB))));clear b1 ho hg hL hB;gi_wp2_with (gi_at_builtin;refine wpListIn_app rfl _ _ 34 rfl T 9 (.string ⟨#[]⟩) 1 16 Tryz.underlying34 infoKSB rfl (by decide) _ pre.length _ rfl (HH.out.2.1.alloc _) W.heap.size 1 #[Value.string x.1] 9 rfl (Blk.new _ _ _) rfl (by simp [Value.oneCell']) (by omega) (by decide) (by simp;omega) _ rfl ?_;intro g cap w5 hown1 hgrow1 hat hlt1;have hb5:=app_pre HH.out.1 HH.out.2.1 ((zR _ _).alloc (zN _) _) hgrow1 (by decide);have c5:=hb5.cell 0;have f5:=hb5.frozen 0;simp at c5)
  have hA:=app_body HH.out.1 HH.out.2.1 ((zR _ _).alloc (zN _) _) hgrow1 hown1 (by omega) (zN _) (by decide);have hK:=hA.keepIt HH.out.2.2.1 HH.out.2.2.2.1 (by omega) (by decide) (by omega) (by decide) (by decide);refine⟨hA.keeps,hK,⟨zT hsz hA.below.size,⟨_,hA.box,?_⟩,hA.far _ _ _ HH.out.2.2.1 (by decide) (by omega),HH.out.2.2.2.1.kept (fun g cur h _=>hK.row g h)⟩,HH.out.2.2.2.2.trans hA.below⟩;have:=hA.own;rw[zF,List.map_append]
  simpa using this
 case done=>
  rintro D ys W hD rfl ⟨⟨hsz,⟨o,b1,ho⟩,hg,hL⟩,hB⟩ hK;have m1:=b1.cell 0;have f1:=b1.frozen 0;simp at m1
  obtain⟨A3,c3,rfl,_,_,_⟩:=SlV_of_any ho;have hD':w.heap.size≤D:=by have:=HTE.out;omega
  have HF:=zH (by
   have hb2:=b1.put 0 (.slice A3 ys.length c3);have ho2:=ho.kept (grown_put (grown_refl W (some T)) 0 (.slice A3 ys.length c3)) (.inr (own_ne_blk ho b1 (by decide)));have hK2:=(KeepsOthers.setCell W ⟨T,0,none⟩ (.slice A3 ys.length c3)).same D _ hK rfl;have hg:=grownBy_putObj' (W.setCell ⟨T,0,none⟩ (.slice A3 ys.length c3)) D (.deferred none);(have hw:=fun r e=>show∃o:Obj,(W.setCell ⟨T,0,none⟩ (.slice A3 ys.length c3)).heap[r]? =some o∧o.isCells=false from(by cases (e:some D=some r);exact⟨_,hK2,rfl⟩));have hB2:=hB.setCell (p:=⟨T,0,none⟩) (zN _) (.slice A3 ys.length c3);exact zA hK2 (zA (blk_ownF hb2 hg hw) (zA (own_ownF ho2 hg hw) (hB2.trans (belowK_b (w:=w) (by have:=HTE.out;omega) _ D _ (.deferred none) hD' hK2 rfl rfl)))))
  clear ho hB b1 hg hL;gi_wp2
  refine⟨by simp,.inl ⟨_,_,rfl,run_takeDeferred HF.out.1,?_⟩⟩;refine⟨_,res_cell_sl rfl _ _ T 34 (.slice A3 ys.length c3) rfl HF.out.2.1 Tryz.underlying34,⟨_,rfl,?_,?_⟩⟩
  ·rw[←HTE.out];exact HF.out.2.2.1
  ·rw[←HTE.out];exact HF.out.2.2.2
 case stop=>
  rintro D c pre W hD hSp h hK;exact h.elim
end Go.Proofs.YtnpehjgnplaabaaGreatDoor
namespace Go.Proofs.YtnpehjgnplaabaaGreatDoor
open Go Go.RowKit
open Sw
theorem srtPutSB_any (w:World)(bm:Nat)(xs:List (ByteArray×Bool))(k:ByteArray)(v:Bool)(h:SMapSB w bm xs)(hn:xs.length+1≤1000000)(hk:okS k):
  Calls Tryz.prog 133 #[.pointer (some ⟨bm,0,none⟩),Value.string k,(Value.bool) v] w fun e w'=>e= .returned (.bool (!inN ordS k xs))∧SMapSB w' bm (putN ordS k v xs)∧w.grownBy w' (some bm):=by
 have HS:=zH (srtFindSB_any w bm xs k h (by omega) hk);have HM:=zH h;have hle:=lbN_le (c:=ordS) k xs;cases hin:inN ordS k xs with
 | false=>
  have hd:=put_miss k v xs hin;have hln:=put_len (c:=ordS) k v xs;rw[hin,if_neg (by simp)] at hln;unfold FindPostSB at HS;rw[hin] at HS;obtain⟨i,hi⟩:∃i,lbN ordS k xs=i:=⟨_,rfl⟩;rw[hi] at HS hle hd;have HD:=zH (zA hd hln);clear hd hln hin hi h;go_enter Tryz.func133,Tryz.ntmps133
  go_wp2_with fail
  refine HS.out.mono ?_;rintro e w1 ⟨rfl,hb1⟩;obtain⟨u,hb,ho⟩:=(HM.out.below hb1).row;obtain⟨A,c,rfl,_,_,_⟩:=SlV.of_own ho eCSB_len (by decide);have hv1:w1.cell? ⟨bm,1,none⟩=some (.slice A xs.length c):=hb.cell 1;have HC:=zH (slCloneSB_any eCSB eCSB_len eCSB_one w1 _ xs (SlV.of_own ho eCSB_len (by decide)) (by omega));have HB:=zH hb;clear hb ho;have hb1S:=hb1.size;have HB1:=zH hb1;clear hb1;go_wp2_with fail
  refine HC.out.mono ?_;rintro e w2 ⟨v2,rfl,ho2,hb2⟩;obtain⟨A2,c2,hv2,_,_,_⟩:=SlV_of_any ho2;have hba:Below w2.heap.size w2 (w2.alloc (.cells (eCSB (k,v)).toArray 225)):=(zR _ _).alloc (zN _) _;have hlt2:=hb2.size;have hown1:=own_kept ho2 hba;have hbk:=Blk.new w2 225 (eCSB (k,v)).toArray;have HI:=zH (slInsertSB_any (w2.alloc (.cells (eCSB (k,v)).toArray 225)) w1.heap.size v2 xs.length i w2.heap.size (xs.flatMap eCSB) 225 (eCSB (k,v)).toArray hown1 (flat1SB xs) hbk (own_ne ho2 _ (zN _)) rfl (by simpa using eCSB_one (k,v)) hle hn (by simp;omega));have HFin:=zH (fun(v3:Value) (w3:World) (ho3:w3.ownsRow w1.heap.size 225 2 v3 (xs.length+1) ((xs.flatMap eCSB).take (i*2)++(eCSB (k,v))++(xs.flatMap eCSB).drop (i*2))) (hbx:Blk w3 bm 221 #[ordFSB,.slice A xs.length c])=>(by
   have hd:=HD.out.1;(have hxs:(xs.flatMap eCSB).take (i*2)++(eCSB (k,v))++(xs.flatMap eCSB).drop (i*2)=(putN ordS k v xs).flatMap eCSB:=by rw[hd,List.flatMap_append,List.flatMap_cons,flat_take eCSB_len,flat_drop eCSB_len,zV]);rw[hxs,←HD.out.2] at ho3;exact⟨⟨v3,hbx.put 1 v3,own_wide (own_grown_typSB ho3 (grown_put (grown_refl w3 (some bm)) 1 v3) hbx (by decide)) (Nat.zero_le _)⟩,put_up ordS_ord k v xs HM.out.up,fun e he=>by
    rcases put_mem k v xs e he with rfl | he
    ·exact hk
    ·exact HM.out.ok e he⟩:SMapSB (w3.setCell ⟨bm,1,none⟩ v3) bm (putN ordS k v xs)))
  have HG:=zH (fun(v3:Value) (w3:World) (hg3:(w2.alloc (.cells (eCSB (k,v)).toArray 225)).grownBy w3 v2.ownBlock)=>(by
   have h1:=grown_below (row:=some bm) HB1.out;have hb2a:=hb2.trans (hba.mono hb2.size);have h2:=grown_trans h1 ⟨hb2a.os,hb2a.tape,hb2a.output,hb2a.size,fun k hk _=>hb2a.block k hk⟩;have h3:=grown_sub h2 hg3 (fun k hk=>by have:=(ho2.lt k hk).1;omega);exact⟨grown_put h3 1 v3,(HB.out.below hb2a HB.out.lt).grown hg3 (fun e=>by have:=(ho2.lt bm e.symm).1;have:=HB.out.lt;omega)⟩:w.grownBy (w3.setCell ⟨bm,1,none⟩ v3) (some bm)∧Blk w3 bm 221 #[ordFSB,.slice A xs.length c]))
  clear HC ho2 hb2 hba hown1 hbk;subst hv2;unfold InsPostSB at HI;generalize hrw:Value.ownBlock _=rw2 at*;clear hrw;simp only[eCSB,List.toList_toArray] at HI HFin HG;go_wp2_with fail
  refine HI.out.mono ?_;rintro e w3 ⟨g3,cap3,rfl,ho3,hg3,hr3⟩;obtain⟨hgf,hbx⟩:=HG.out (.slice (some ⟨g3,0,none⟩) (xs.length+1) cap3) w3 hg3;have hF:=HFin.out _ w3 ho3 hbx;have hc1:w3.cell? ⟨bm,1,none⟩=some (.slice A xs.length c):=hbx.cell 1;have hf1:=hbx.frozen 1;have HZ:=zH (zA hF hgf);clear hF hgf hbx ho3 hg3 hr3;go_wp2_with fail
  go_ret;exact⟨rfl,HZ.out.1,HZ.out.2⟩
 | true=>
  have hlt:=inN_lt ordS_ord hin;have hd:=put_hit k v xs hin;have hkk:ordS (xs[lbN ordS k xs]).1 k=0:=by
   have:=inN_at ordS_ord (k:=k) hlt;rw[hin] at this;exact of_decide_eq_true this.symm
  have hkx:∀(j:Nat) (hj:j<xs.length),j=lbN ordS k xs→(xs[j]).1=k:=by
   intro j hj e;subst e;exact ordS_ord.zero _ _ hkk
  unfold FindPostSB at HS;rw[hin] at HS;obtain⟨i,hi⟩:∃i,lbN ordS k xs=i:=⟨_,rfl⟩;rw[hi] at HS hlt hd;have hkx2:=hkx i hlt hi.symm;have HD:=zH (zA hd hkx2);clear hkx2 hd hin hi h hle hkk hkx;go_enter Tryz.func133,Tryz.ntmps133
  go_wp2_with fail
  refine HS.out.mono ?_;rintro e w1 ⟨rfl,hb1⟩;obtain⟨u,hb,ho⟩:=(HM.out.below hb1).row;obtain⟨A,c,rfl,_,_,_⟩:=SlV.of_own ho eCSB_len (by decide);have hv1:w1.cell? ⟨bm,1,none⟩=some (.slice A xs.length c):=hb.cell 1;have HC:=zH (slCloneSB_any eCSB eCSB_len eCSB_one w1 _ xs (SlV.of_own ho eCSB_len (by decide)) (by omega));have HB:=zH hb;clear hb ho;have hb1S:=hb1.size;have HB1:=zH hb1;clear hb1;go_wp2_with fail
  refine HC.out.mono ?_;rintro e w2 ⟨v2,rfl,ho2,hb2⟩;obtain⟨g,cap,cur,rfl,hbg,hg,hnc,hcm,hcs,htk⟩:=own_form ho2 (by omega);have hgl:=hg.lt;have hst:=own_setCells [.bool v] (i*2+1) w2 _ ho2 (by simp;omega);have hgr:=grown_setCells (a:=w2) (g:=g) [.bool v] (i*2+1) w2 (grown_refl _ _);have hfl:=flat_put eCSB_len xs i hlt (k,v) 1 [.bool v] (by simp) (by simp [eCSB,HD.out.2]);rw[hfl,←HD.out.1] at hst;have hl:(putN ordS k v xs).length=xs.length:=by rw[HD.out.1,List.length_set]
  rw[←hl] at hst;have hbx:Blk (w2.setCells g (i*2+1) [.bool v]) bm 221 #[ordFSB,.slice A xs.length c]:=(HB.out.below hb2 HB.out.lt).grown hgr (fun e=>by have:=HB.out.lt;cases e;omega);have hF:SMapSB ((w2.setCells g (i*2+1) [.bool v]).setCell ⟨bm,1,none⟩ (.slice (some ⟨g,0,none⟩) (putN ordS k v xs).length cap)) bm (putN ordS k v xs):=
   ⟨⟨_,hbx.put 1 _,own_wide (own_grown_typSB hst (grown_put (grown_refl _ (some bm)) 1 _) hbx (by decide)) (Nat.zero_le _)⟩,put_up ordS_ord k v xs HM.out.up,fun e he=>by
    rcases put_mem k v xs e he with rfl | he
    ·exact hk
    ·exact HM.out.ok e he⟩
  have hGf:w.grownBy ((w2.setCells g (i*2+1) [.bool v]).setCell ⟨bm,1,none⟩ (.slice (some ⟨g,0,none⟩) (putN ordS k v xs).length cap)) (some bm):=by
   have h1:=grown_below (row:=some bm) HB1.out;have h2:=grown_trans h1 ⟨hb2.os,hb2.tape,hb2.output,hb2.size,fun k hk _=>hb2.block k hk⟩;exact grown_put (grown_sub h2 hgr (fun k hk=>by cases hk;omega)) 1 _
  rw[hl] at hF hGf;have hx0:∀j,j<cap*2→(w2.cell? ⟨g,j,none⟩).isSome=true:=fun j hj=>by
   rw[hg.cell,Array.getElem?_eq_getElem (by omega)];rfl
  have hil:i*2+1<cap*2:=by omega
  obtain⟨old,hold⟩:=Option.isSome_iff_exists.1 (hx0 (i*2+1) hil);have hfz:=hg.frozen (i*2+1);have hbc1:w2.cell? ⟨bm,1,none⟩=some (.slice A xs.length c):=(HB.out.below hb2 HB.out.lt).cell 1;have hbf1:=(HB.out.below hb2 HB.out.lt).frozen 1;have hne1:bm≠g:=fun e=>by have:=HB.out.lt;omega
  have hc3:(w2.setCell ⟨g,i*2+1,none⟩ (Value.bool v)).cell? ⟨bm,1,none⟩=some (.slice A xs.length c):=(World.cell?_setCell_other w2 _ _ _ (by intro e;exact hne1 (congrArg Addr.block e).symm)).trans hbc1;have hf3:(w2.setCell ⟨g,i*2+1,none⟩ (Value.bool v)).frozen? ⟨bm,1,none⟩=false:=by
   rw[World.frozen?_setCell];exact hbf1
  have HZ:=zH (zA hF hGf);clear hF hGf hbx hst hgr hfl hl hx0 hg htk ho2 hb2 hnc hcs hcm;have hi2:(i:Int)<xs.length:=by omega
  go_wp2_with fail
  go_ret;exact⟨rfl,HZ.out.1,HZ.out.2⟩
end Go.Proofs.YtnpehjgnplaabaaGreatDoor
namespace Sw
open Go Go.RowKit
variable {F:Fence} {n:Nat} {P:Program}
def AbN {β:Type} (Mine:Nat→Prop) (B:Nat) (J:β→World→Prop):Prop:=
 ∀s W W' row,J s W→W.grownBy W' row→(∀r,row=some r→Mine r∨(B≤r∧∃o:Obj,W.heap[r]? =some o∧o.isCells=false))→J s W'
theorem AbN.abM {β:Type}{Mine:Nat→Prop}{B:Nat}{J:β→World→Prop}(h:AbN Mine B J):AbM Mine B J:=fun s W W' row hs hg hr=>h s W W' row hs hg (fun r e=>by
 rcases hr r e with h1 | ⟨h1,o,ho,hw⟩
 ·exact .inl h1
 ·exact .inr ⟨h1,o,ho,Obj.not_cells_of_walk hw⟩)
end Sw
