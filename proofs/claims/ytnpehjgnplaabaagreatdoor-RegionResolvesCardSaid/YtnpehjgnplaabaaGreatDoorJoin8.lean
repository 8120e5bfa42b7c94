/- Several texts of ours, joined. -/
import Derived.Test.YtnpehjgnplaabaaGreatDoorJoin1
import Derived.Test.YtnpehjgnplaabaaGreatDoorJoin7
import Derived.Test.YtnpehjgnplaabaaGreatDoorJoin6
import Derived.Test.YtnpehjgnplaabaaGreatDoorJoin3
import Derived.Test.YtnpehjgnplaabaaGreatDoorJoin2
import Derived.Test.YtnpehjgnplaabaaGreatDoorJoin4
set_option linter.unusedVariables false
set_option linter.unusedSimpArgs false
set_option maxRecDepth 100000
set_option maxHeartbeats 64000000
namespace Sw
open Go
def agOf (t:JnEP):Option MkE:=if t.2.1.isSome=true∧t.2.2.isSome=true∧t.2.1.getD ⟨0,0,0,0,0⟩=t.2.2.getD ⟨0,0,0,0,0⟩ then some (t.1,t.2.1.getD ⟨0,0,0,0,0⟩) else none
def agreeM (L M:List MkE):List MkE:=L.filter fun m=>decide (findM M m.1=some m.2)
theorem getN_findM {L:List MkE}(h:Up ordS L)(p:ByteArray):getN ordS p L=findM L p:=by
 rw[get_find ordS_ord p L h];unfold findM;congr 2
 funext e
 simp [ordS_ord.iff]
theorem findM_mem {L:List MkE}{p:ByteArray}{a:Pr}(h:findM L p=some a):(p,a)∈L:=by
 unfold findM at h;rw[Option.map_eq_some_iff] at h;obtain⟨⟨q,b⟩,h1,h2⟩:=h;have h3:=List.mem_of_find?_eq_some h1;have h4:=List.find?_some h1;simp only[decide_eq_true_eq] at h4;simp only at h2 h4;rw[h4,h2] at h3;exact h3
theorem fm_up {g:ByteArray→Option MkE}(hg:∀p e,g p=some e→e.1=p):∀{P:List ByteArray},Rise P→Up ordS (P.filterMap g)
 | [],_=>List.Pairwise.nil
 | p::r,h=>by
  have hr:=List.pairwise_cons.1 h;have ih:=fm_up hg hr.2;rw[List.filterMap_cons];cases hp:g p with
  | none=>exact ih
  | some e=>
   refine List.pairwise_cons.2 ⟨fun e' he'=>?_,ih⟩;obtain⟨q,hq,hq2⟩:=List.mem_filterMap.1 he';rw[hg p e hp,hg q e' hq2];exact hr.1 q hq
theorem ag_join {L M:List MkE}(hL:Up ordS L)(hM:Up ordS M):(joinL ordS L M).filterMap agOf=agreeM L M:=by
 rw[join_pathsP hL hM,List.filterMap_map];refine up_ext ordS_ord _ _ (fm_up (fun p e h=>?_) (pathsS_rise _)) (by unfold agreeM;exact List.Pairwise.filter _ hL) (fun e=>?_)
 ·simp only[Function.comp,agOf] at h;split at h
  ·cases h;rfl
  ·cases h
 ·rw[List.mem_filterMap];unfold agreeM;rw[List.mem_filter,decide_eq_true_eq];constructor
  ·rintro ⟨p,_,h⟩;simp only[Function.comp,agOf] at h;split at h
   ·rename_i hc
    (cases h);obtain⟨h1,h2,h3⟩:=hc;rw[getN_findM hL] at h1 h3⊢;rw[getN_findM hM] at h2 h3;obtain⟨a,ha⟩:=Option.isSome_iff_exists.1 h1;obtain⟨b,hb⟩:=Option.isSome_iff_exists.1 h2;rw[ha,hb] at h3;rw[ha];simp only[Option.getD_some] at h3⊢;exact⟨findM_mem ha,by rw[hb,h3]⟩
   ·cases h
  ·rintro ⟨h1,h2⟩;refine⟨e.1,(pathsS_mem _ _).2 (zU _ (List.mem_map.2 ⟨e,h1,rfl⟩)),?_⟩;have h3:=findM_up hL h1;simp only[Function.comp,agOf,getN_findM hL,getN_findM hM,h2,h3];simp
end Sw
namespace Go.Proofs.YtnpehjgnplaabaaGreatDoor
open Go Go.RowKit Go.Shelf
open Sw
attribute [local go_sem] Oper.semAt_some
structure AoI (T b1 b2 b3:Nat) (v1 v2:Value) (pre:List JnEP) (V:World):Prop where
 o:∃o,Blk V T 22 #[o]∧OwnMk V T o (pre.filterMap agOf)
 b1:Blk V b1 198 #[v1]
 b2:Blk V b2 198 #[v2]
 b3:Blk V b3 108 #[ordFSP]
 r1:RowIn V 204 v1
 r2:RowIn V 204 v2
theorem RowIn.ownP {W W':World}{row:Option Nat}{te:TypeId}{v:Value}(h:RowIn W te v)(hg:W.grownBy W' row)(hr:∀r,row=some r→∃o:Obj,W.heap[r]? =some o∧o.isCells=false):RowIn W' te v:=fun g hv=>by
 obtain⟨cs,hc⟩:=h g hv;exact⟨cs,blk_ownF hc hg hr⟩
theorem AoI.own (T b1 b2 b3:Nat)(v1 v2:Value):Own (AoI T b1 b2 b3 v1 v2):=fun _ A B row h hg hr=>⟨by obtain⟨o,h1,h2⟩:=h.o;exact⟨o,blk_ownF h1 hg hr,own_ownF h2 hg hr⟩,blk_ownF h.b1 hg hr,blk_ownF h.b2 hg hr,blk_ownF h.b3 hg hr,h.r1.ownP hg hr,h.r2.ownP hg hr⟩
theorem AoI.below {T b1 b2 b3:Nat}{v1 v2:Value}{pre:List JnEP}{A B:World}(h:AoI T b1 b2 b3 v1 v2 pre A)(hb:Below A.heap.size A B):AoI T b1 b2 b3 v1 v2 pre B:=⟨by obtain⟨o,h1,h2⟩:=h.o;exact⟨o,h1.below hb h1.lt,h2.below hb⟩,h.b1.below hb h.b1.lt,h.b2.below hb h.b2.lt,h.b3.below hb h.b3.lt,h.r1.below hb,h.r2.below hb⟩
theorem AoI.keep {T b1 b2 b3:Nat}{v1 v2:Value}{pre:List JnEP}{A B:World}(h:AoI T b1 b2 b3 v1 v2 pre A)(hb:Below A.heap.size A B):KeepP (JoinK b1 b2 b3 v1 v2) A B:=⟨hb.size,fun g hg=>hb.block g (by
 rcases hg with rfl | rfl | rfl | hg | hg
 ·exact h.b1.lt
 ·exact h.b2.lt
 ·exact h.b3.lt
 ·exact h.r1.lt g hg
 ·exact h.r2.lt g hg)⟩
theorem fmA_one (pre:List JnEP)(x:JnEP):(pre++[x]).filterMap agOf=pre.filterMap agOf++(agOf x).toList:=by
 rw[List.filterMap_append];cases h:agOf x with
 | none=>simp [h]
 | some c=>simp [h]
theorem archOf_any (w:World)(bt bmt bt2 bmt2:Nat)(xs ys:List NE)(hT:TreeAt w bt bmt xs)(hT2:TreeAt w bt2 bmt2 ys)(hxl:xs.length≤1000)(hyl:ys.length≤1000)(hxd:∀e∈xs,e.2.data.size≤maxLen)(hyd:∀e∈ys,e.2.data.size≤maxLen):
  Calls Tryz.prog 63 #[.pointer (some ⟨bt,0,none⟩),.pointer (some ⟨bt2,0,none⟩)] w fun e w'=>∃r,e= .returned r∧OwnMk w' w.heap.size r (agreeM (marksT xs) (marksT ys))∧Below w.heap.size w w':=by
 have hup1:=marksT_up hT.map.up;have hup2:=marksT_up hT2.map.up;have haj:=ag_join hup1 hup2;have hxp:∀e∈xs,e.1.size≤90000:=fun e he=>hT.ok (n:=e.2) he
 have hyp:∀e∈ys,e.1.size≤90000:=fun e he=>hT2.ok (n:=e.2) he
 have b0:=Blk.new w 22 #[.slice none 0 0];have hB:Below w.heap.size w (w.alloc (.cells #[.slice none 0 0] 22)):=(zR _ w).alloc (zN _) _;have HM1:=zH (marks_any _ bt bmt xs (hT.below hB) hxl hxp hxd);have HM2:=zH (fun W (h:TreeAt W bt2 bmt2 ys)=>marks_any W bt2 bmt2 ys h hyl hyp hyd);have hT2B:=hT2.below hB;have hml1:(marksT xs).length≤1000:=by unfold marksT;rw[zS];exact hxl
 have hml2:(marksT ys).length≤1000:=by unfold marksT;rw[zS];exact hyl
 have hmp1:∀e∈marksT xs,okS e.1:=fun e he=>by obtain⟨x,hx,rfl⟩:=List.mem_map.1 he;exact hxp x hx
 have hmp2:∀e∈marksT ys,okS e.1:=fun e he=>by obtain⟨x,hx,rfl⟩:=List.mem_map.1 he;exact hyp x hx
 have HX:=zH (zA hml1 (zA hml2 (zA hmp1 hmp2)));have HAJ:=zH haj;clear hT hT2 hxl hyl hxp hyp hxd hyd hml1 hml2 hmp1 hmp2 haj hup1 hup2;generalize agreeM (marksT xs) (marksT ys)=ANS at*;generalize marksT xs=L1 at*;generalize marksT ys=L2 at*;refine callsIn_wide.1 (?_:CallsIn Fence.wide 9 _ _ _ _ _);refine callsIn_of_wp_marks Tryz.func63 rfl trivial ?_ rfl;simp only[Tryz.ntmps63,List.size_toArray,zI,List.length_nil,Nat.reduceAdd,Nat.reduceSub,Array.replicate_succ,Array.replicate_zero,List.push_toArray,List.append_toArray,List.nil_append,List.cons_append];obtain⟨w1,hw1⟩:∃w1,w.alloc (.cells #[.slice none 0 0] 22)=w1:=⟨_,rfl⟩;rw[hw1] at b0 hB HM1 hT2B;have H0:=zH (zA b0 (zA hB hT2B));clear b0 hB hT2B;have HW1:=zH hw1;clear hw1;gi_wp2
 rw[HW1.out];refine⟨trivial,(callsIn_wide.2 HM1.out).mono ?_⟩;rintro e w2 ⟨m1,rfl,hm1,-,hb2⟩;have H2:=zH (zA (H0.out.1.below hb2 H0.out.1.lt) (zA (H0.out.2.1.trans (hb2.mono H0.out.2.1.size)) (zA hm1 (H0.out.2.2.below hb2))));clear hb2 hm1 HM1 H0 HW1;gi_wp2
 refine⟨trivial,(callsIn_wide.2 (HM2.out w2 H2.out.2.2.2)).mono ?_⟩;rintro e w3 ⟨m2,rfl,hm2,-,hb3⟩;have H3:=zH (zA (H2.out.1.below hb3 H2.out.1.lt) (zA (H2.out.2.1.trans (hb3.mono H2.out.2.1.size)) (zA (H2.out.2.2.1.below hb3) hm2)));clear hb3 hm2 HM2 H2;gi_wp2
 refine⟨trivial,(callsIn_wide.2 (joinOwnSP_any w3 m1 m2 L1 L2 H3.out.2.2.1 H3.out.2.2.2)).mono ?_⟩;rintro e w4 ⟨b1,b2,b3,v1,v2,rfl,B1,B2,B3,L1',L2',R1,R2,hb4⟩;have hB0:=H3.out.1.below hb4 H3.out.1.lt;have hBw:=H3.out.2.1.trans (hb4.mono H3.out.2.1.size);obtain⟨T,hTe⟩:∃T,T=w.heap.size:=⟨_,rfl⟩;rw[←hTe] at hB0 hBw⊢;have HTE:=zH hTe;clear hTe;have HT:=zH (joinSP_tells 8 (by omega) b1 b2 b3 v1 v2 L1 L2 w4 B1 B2 B3 L1' L2' R1.lt R2.lt (by have:=HX.out.1;omega) (by have:=HX.out.2.1;omega) HX.out.2.2.1 HX.out.2.2.2);have hKK:∀g,JoinK b1 b2 b3 v1 v2 g→g<w4.heap.size:=fun g hg=>by
  rcases hg with rfl | rfl | rfl | h | h
  ·exact B1.lt
  ·exact B2.lt
  ·exact B3.lt
  ·exact R1.lt g h
  ·exact R2.lt g h
 have HI0:=zH (show AoI T b1 b2 b3 v1 v2 [] w4∧Below T w w4 from⟨⟨⟨_,hB0,World.ownsRow_nil _ _ _ _⟩,B1,B2,B3,R1,R2⟩,hBw⟩);have hz4:T<w4.heap.size:=hB0.lt;have hjl:(joinL ordS L1 L2).length≤2000:=zT (joinL_len _ _) (by have:=HX.out.1;have:=HX.out.2.1;omega);clear hb4 hB0 hBw B1 B2 B3 L1' L2' R1 R2 H3;gi_wp2
 refine wpIn_rangeFunc_tellW (Mine:=fun _=>False) (fun _ h=>h.elim) rfl (by omega) (gf:=142) (lb:= #[.pointer (some ⟨b1,0,none⟩),.pointer (some ⟨b2,0,none⟩),.pointer (some ⟨b3,0,none⟩)]) rfl trivial (enters_of Tryz.func142 (by kernel_rfl) rfl)
  HT.out KeepP.trans (fun W l o o' hl h _ _=>keepP_b hKK W l _ _ hl h (by assumption) (by assumption)) (zR _ _) (fun _=>rfl)
  (fun pre W=>AoI T b1 b2 b3 v1 v2 pre W∧Below T w W)
  (fun c pre W=>False)
  (OwnM.of_none (OwnFrom.and (Own.from (AoI.own T b1 b2 b3 v1 v2) _) (ownFrom_below (by have:=HTE.out;omega) (by omega))))
  (fun c=>OwnM.of_none (fun _ _ _ _ hs _ _=>hs.elim))
  HI0.out
  ?a1 (fun x W=>W.alloc (.cells (pCSP x.2) 164))
  (fun x n₀ pre W=>(AoI T b1 b2 b3 v1 v2 pre W∧Below T w W)∧Blk W n₀ 164 (pCSP x.2)) (fun x n₀=>OwnM.of_none (OwnFrom.and (OwnFrom.and (Own.from (AoI.own T b1 b2 b3 v1 v2) _) (ownFrom_below (by have:=HTE.out;omega) (by omega))) (Own.from (fun _ A B row hs hg hr=>blk_ownF hs hg hr) _))) ?made ?assign ?body ?done ?stop
 case assign=>
  intro l x n0 W hn K hK;simp only[pCSP];gi_wp2
  exact hK
 case made=>
  rintro pre x W ⟨hI,hB⟩ hTl;have hba:=(zR W.heap.size W).alloc (zN _) (.cells (pCSP x.2) 164);obtain⟨o,c0,_⟩:=hI.o;exact⟨⟨⟨hI.below hba,hB.alloc (Nat.le_of_lt c0.lt) _⟩,Blk.new _ _ _⟩,keeps_belowF hba,hI.keep hba⟩
 case body=>
  rintro l pre ⟨p,x,y⟩ n₀ W ⟨⟨hI,hB⟩,hX⟩ hTl;have hpl:(pre.filterMap agOf).length+1≤2001:=by
   obtain⟨r,hr⟩:=hTl;have h1:=congrArg List.length hr;have h2:=List.length_filterMap_le agOf pre;simp only[zF,zI,List.length_nil] at h1;omega
  have hfo:=fmA_one pre (p,x,y);have hag:agOf (p,x,y)=if x.isSome=true∧y.isSome=true∧x.getD ⟨0,0,0,0,0⟩=y.getD ⟨0,0,0,0,0⟩ then some (p,x.getD ⟨0,0,0,0,0⟩) else none:=rfl
  rw[hag] at hfo;clear hag hTl;dsimp only[pCSP] at hX
  obtain⟨a,ha⟩:∃a,x.getD ⟨0,0,0,0,0⟩=a:=⟨_,rfl⟩;obtain⟨b,hb⟩:∃b,y.getD ⟨0,0,0,0,0⟩=b:=⟨_,rfl⟩;simp only[ha,hb] at hX hfo;generalize x.isSome=xi at*;generalize y.isSome=yi at*;have hq:=fun W=>eq_print a b W
  obtain⟨E,hE⟩:∃E,decide (a=b)=E:=⟨_,rfl⟩;simp only[hE] at hq;obtain⟨ak,am,at',az,au⟩:=a;obtain⟨ck,cm,ct,cz,cu⟩:=b;simp only at hX;simp only[Pr.c] at hq;have z0:=hX.cell 0;have z1:=hX.cell 1;have z2:=hX.cell 2;have z3:=hX.cell 3;have z4:=hX.cell 4;have z5:=hX.cell 5;have z6:=hX.cell 6;have z7:=hX.cell 7;have z8:=hX.cell 8;have z9:=hX.cell 9;have z10:=hX.cell 10;have z11:=hX.cell 11;simp only[qA,qB,qC] at z0 z1 z2 z3 z4 z5 z6 z7 z8 z9 z10 z11;have HF:=zH hfo;have HIB:=zH (zA hI (zA hB hE));clear hX ha hb hfo hE hI hB;cases xi with
  | false=>
   (have hno:(pre++[((p,x,y):JnEP)]).filterMap agOf=pre.filterMap agOf:=by rw[HF.out,if_neg (fun h=>by cases h.1)];exact List.append_nil _);have HNO:=zH hno;clear hno;(gi_wp2);refine⟨keeps_belowF (zR _ W),HIB.out.1.keep (zR _ W),⟨?_,HIB.out.1.b1,HIB.out.1.b2,HIB.out.1.b3,HIB.out.1.r1,HIB.out.1.r2⟩,HIB.out.2.1⟩;rw[HNO.out];exact HIB.out.1.o
  | true=>
   cases yi with
   | false=>
    (have hno:(pre++[((p,x,y):JnEP)]).filterMap agOf=pre.filterMap agOf:=by rw[HF.out,if_neg (fun h=>by cases h.2.1)];exact List.append_nil _);have HNO:=zH hno;clear hno;(gi_wp2);refine⟨keeps_belowF (zR _ W),HIB.out.1.keep (zR _ W),⟨?_,HIB.out.1.b1,HIB.out.1.b2,HIB.out.1.b3,HIB.out.1.r1,HIB.out.1.r2⟩,HIB.out.2.1⟩;rw[HNO.out];exact HIB.out.1.o
   | true=>
    cases E with
    | false=>
     (have hno:(pre++[((p,x,y):JnEP)]).filterMap agOf=pre.filterMap agOf:=by rw[HF.out,if_neg (fun h=>of_decide_eq_false HIB.out.2.2 h.2.2)];exact List.append_nil _);have HNO:=zH hno;clear hno;(gi_wp2);refine⟨keeps_belowF (zR _ W),HIB.out.1.keep (zR _ W),⟨?_,HIB.out.1.b1,HIB.out.1.b2,HIB.out.1.b3,HIB.out.1.r1,HIB.out.1.r2⟩,HIB.out.2.1⟩;rw[HNO.out];exact HIB.out.1.o
    | true=>
     obtain⟨o,d1,ho⟩:=HIB.out.1.o;(have hyes:(pre++[((p,x,y):JnEP)]).filterMap agOf=pre.filterMap agOf++[(p,⟨ak,am,at',az,au⟩)]:=by rw[HF.out,if_pos ⟨rfl,rfl,of_decide_eq_true HIB.out.2.2⟩];rfl);have HYES:=zH hyes;clear hyes;generalize hn:pre.filterMap agOf=K at*;obtain⟨n,hn2⟩:∃n,K.length=n:=⟨_,rfl⟩;have HN:=zH hn2;have m1:=d1.cell 0;have f1:=d1.frozen 0;(simp at m1);unfold OwnMk at ho;rw[hn2] at ho hpl;obtain⟨A3,c3,rfl,_,_,_⟩:=SlV_of_any ho;have hTW:=Nat.le_of_lt d1.lt;have HH:=zH (zA d1 ho);clear d1 ho hn hn2;(gi_wp2_with (gi_at_builtin;refine wpListIn_app rfl _ _ 22 rfl T 63 (.agg #[.string ⟨#[]⟩,.int .i64 0,.int .i64 0,.int .u32 0,.int .i64 0,.int .u32 0]) 6 56 Tryz.underlying22 infoMk rfl (by decide) _ n _ rfl (HH.out.2.alloc _) W.heap.size 1 #[.string p,.int .i64 ak,.int .i64 am,.int .u32 at',.int .i64 az,.int .u32 au] 63 rfl (Blk.new _ _ _) rfl (by simp [Value.oneCell']) (by omega) (by decide) (by simp;omega) _ rfl ?_;intro g cap w5 hown1 hgrow1 hat hlt1;have hb5:=app_pre HH.out.1 HH.out.2 ((zR _ _).alloc (zN _) _) hgrow1 (by decide);have c5:=hb5.cell 0;have f5:=hb5.frozen 0;simp at c5));have hA:=app_body HH.out.1 HH.out.2 ((zR _ _).alloc (zN _) _) hgrow1 hown1 (by omega) (zN _) (by decide);(have far:=fun g' t cs (h:Blk W g' t cs) (ht:¬t=63) (ht2:¬t=22)=>hA.far g' t cs h ht (fun e=>ht2 (by subst e;exact hA.typ t cs h)));(have same:=fun g' t cs (h:Blk W g' t cs) (ht:¬t=63) (ht2:¬t=22)=>(by have h2:=far g' t cs h ht ht2;unfold Blk at h h2;exact h2.trans h.symm));have h2:=HIB.out.1;refine⟨hA.keeps,⟨hA.below.size,fun g' hg'=>?_⟩,⟨⟨_,hA.box,?_⟩,far _ _ _ h2.b1 (by decide) (by decide),far _ _ _ h2.b2 (by decide) (by decide),far _ _ _ h2.b3 (by decide) (by decide),fun g' hg'=>?_,fun g' hg'=>?_⟩,HIB.out.2.1.trans hA.below⟩
     ·rcases hg' with rfl | rfl | rfl | h | h
      ·exact same _ _ _ h2.b1 (by decide) (by decide)
      ·exact same _ _ _ h2.b2 (by decide) (by decide)
      ·exact same _ _ _ h2.b3 (by decide) (by decide)
      ·obtain⟨cs,hc⟩:=h2.r1 _ h;exact same _ _ _ hc (by decide) (by decide)
      ·obtain⟨cs,hc⟩:=h2.r2 _ h;exact same _ _ _ hc (by decide) (by decide)
     ·rw[HYES.out];have h3:=hA.own;unfold OwnMk;rw[zF,List.flatMap_append,HN.out]
      simpa [eCM] using h3
     ·obtain⟨cs,hc⟩:=h2.r1 _ hg';exact⟨cs,far _ _ _ hc (by decide) (by decide)⟩
     ·obtain⟨cs,hc⟩:=h2.r2 _ hg';exact⟨cs,far _ _ _ hc (by decide) (by decide)⟩
 case done=>
  rintro D zs W hD hzs ⟨hI,hB⟩ hK;have hz:zs=joinL ordS L1 L2:=hzs;subst hz;obtain⟨o,b1,ho⟩:=hI.o;rw[HAJ.out] at ho;have m1:=b1.cell 0;have f1:=b1.frozen 0;simp at m1
  unfold OwnMk at ho;obtain⟨A3,c3,rfl,_,_,_⟩:=SlV_of_any ho;have hD':w.heap.size≤D:=by have:=HTE.out;omega
  have HC:=zH (zA b1 (zA ho (zA hB hK)));clear b1 ho hB hK hzs hI;obtain⟨n,hn⟩:∃n,ANS.length=n:=⟨_,rfl⟩;rw[hn] at HC m1;have HNN:=zH hn;try rw[hn]
  clear hn;gi_wp2
  have hK2:(W.setCell ⟨T,0,none⟩ (.slice A3 n c3)).heap[D]? =some (Obj.deferred (some [])):=(KeepsOthers.setCell W ⟨T,0,none⟩ (.slice A3 n c3)).same D _ HC.out.2.2.2 rfl;have hR2:Blk (W.setCell ⟨T,0,none⟩ (.slice A3 n c3)) T 22 #[.slice A3 n c3]:=HC.out.1.put 0 (.slice A3 n c3);have hO2:=HC.out.2.1.kept (grown_put (grown_refl W (some T)) 0 (.slice A3 n c3)) (.inr (own_ne_blk HC.out.2.1 HC.out.1 (by decide)));have hB2:=HC.out.2.2.1.setCell (p:=⟨T,0,none⟩) (zN _) (.slice A3 n c3);have hw:=fun r (e:some D=some r)=>show∃o:Obj,(W.setCell ⟨T,0,none⟩ (.slice A3 n c3)).heap[r]? =some o∧o.isCells=false from(by cases e;exact⟨_,hK2,rfl⟩)
  refine⟨by simp,.inl ⟨_,_,rfl,run_takeDeferred hK2,?_⟩⟩;refine⟨_,res_cell_sl rfl _ _ T 22 (.slice A3 n c3) rfl (blk_ownF hR2 (grownBy_putObj' _ D (.deferred none)) hw) Tryz.underlying22,⟨_,rfl,?_,?_⟩⟩
  ·unfold OwnMk;rw[HNN.out,←HTE.out];exact own_ownF hO2 (grownBy_putObj' _ D (.deferred none)) hw
  ·exact(hB2.mono (by have:=HTE.out;omega)).trans (belowK_b (w:=w) (zN _) _ D _ _ hD' hK2 rfl rfl)
 case stop=>
  rintro D c pre W hD hSp h;exact h.elim
end Go.Proofs.YtnpehjgnplaabaaGreatDoor
namespace Sw
open Go
def OnlyN (Q:Exit→Act→World→Prop):Exit→Act→World→Prop
 | .normal,a,w=>Q .normal a w
 | _,_,_=>False
theorem OnlyN.imp {Q:Exit→Act→World→Prop}:∀(e:Exit) (a:Act) (w:World),OnlyN Q e a w→Q e a w:=fun e a w h=>by
 cases e<;>first | exact h | exact(h:False).elim
theorem OnlyN.out {Q:Exit→Act→World→Prop}:¬LetsOut (OnlyN Q):=fun⟨_,_,h⟩=>h
section
variable {P:Program} {ops:Array Oper} {md:Region.Mode} {Q:Exit→Act→World→Prop} {C:World→Prop}
def anyC (P:Program) (md:Region.Mode) (ops:Array Oper) (C:World→Prop) (Q:Exit→Act→World→Prop):Nat→Array Bool→Act→World→Prop
 | 0,listed,a,w=>C w∧Region.ready md ops listed=[]∧Q .normal a w
 | f+1,listed,a,w=>C w∧Region.ready md ops listed≠[]∧∀i∈Region.ready md ops listed,wpOp P ops (OnlyN Q) i (anyC P md ops C Q f (listed.setIfInBounds i true)) a w
theorem anyC_C:∀{f:Nat} {listed:Array Bool} {a:Act} {w:World},anyC P md ops C Q f listed a w→C w
 | 0,_,_,_,h=>h.1
 | _+1,_,_,_,h=>h.1
theorem wpAny_of_anyC:∀(f:Nat) (listed:Array Bool) (a:Act) (w:World),anyC P md ops C Q f listed a w→wpAny P md ops (OnlyN Q) f listed a w
 | 0,_,_,_,h=>h.2
 | f+1,listed,a,w,h=>⟨fun h0=>absurd h0 h.2.1,fun i hi=>wpOp_mono (fun a w=>wpAny_of_anyC f _ a w) (h.2.2 i hi)⟩
theorem upon_put {oj:Oper}{K K':Act→World→Prop}{a b:Act}(hK:∀ds u w',K (({b with defers:=ds++b.defers}:Act).put oj.dst u) w'→K' (({a with defers:=ds++a.defers}:Act).put oj.dst u) w'):∀r:Result Next,oj.upon P b K (OnlyN Q) r→oj.upon P a K' (OnlyN Q) r:=fun r h=>by
 have h0:∀u w',K (b.put oj.dst u) w'→K' (a.put oj.dst u) w':=fun u w'=>hK [] u w'
 cases r with
 | ok n w'=>
  cases n<;>simp only[Oper.upon] at h⊢
  case value u=>exact h0 u w' h
  case skip=>exact h0 _ w' h
  case defer d=>exact hK [d] _ w' h
  case enter f args=>exact Calls.mono h (fun e w'' he=>by cases e<;>first | exact h0 _ _ he | exact he)
  case row row args=>exact Rows.mono h (fun v w'' he=>h0 _ _ he)
 | halt x w'=>cases x<;>simp only[Oper.upon] at h⊢<;>exact h
theorem wpOp_put {j:Nat}{oi oj:Oper}{v:Value}{a:Act}{w:World}(hj:ops[j]? =some oj)(hap:oi.apart ops oj=true)(hsj:∀cs b,oj.op≠ .select cs b)
  {K K':Act→World→Prop} (hK:∀ds u w',K ((({a with defers:=ds++a.defers}:Act).put oj.dst u).put oi.dst v) w'→K' (({a with defers:=ds++a.defers}:Act).put oj.dst u) w')
  (h:wpOp P ops (OnlyN Q) j K (a.put oi.dst v) w):wpOp P ops (OnlyN Q) j K' a w:=by
 obtain⟨h1,h2,h3⟩:=Oper.apart_spec hap;unfold wpOp at*;simp only[hj] at*;rw[wanted_put oj a oi.dst v h1] at h;have hpd:∀(ds:List Deferred) (b:Act) (x:Option Tmp) (u:Value),({b.put x u with defers:=ds}:Act)=({b with defers:=ds}:Act).put x u:=fun ds b x u=>by cases x<;>rfl
 have hdd:∀(b:Act) (x:Option Tmp) (u:Value),(b.put x u).defers=b.defers:=fun b x u=>by cases x<;>rfl
 split
 ·rename_i hw
  rw[if_pos hw] at h;rcases h with h | h
  ·left
   unfold Oper.wp at*;rw[execOp_put oj hsj a oi.dst v h1] at h;refine upon_put (fun ds u w' hk=>hK ds u w' ?_) _ h;rw[hpd,hdd] at hk;rw[Act.put_comm _ v u h2] at hk;exact hk
  ·exact absurd h.2 OnlyN.out
 ·rename_i hw
  rw[if_neg hw] at h;refine hK [] undef w ?_;rw[←Act.put_comm _ v undef h2];exact h
theorem anyC_first {i:Nat}{oi:Oper}{v:Value}(hi:ops[i]? =some oi)(hsel:∀(j:Nat) (o:Oper) cs b,ops[j]? =some o→o.op≠ .select cs b):
  ∀(f:Nat) (listed:Array Bool) (a:Act) (w:World),
   (∀j oj,ops[j]? =some oj→j≠i→listed.getD j true=false→(∀e∈oj.after,Region.binds md e=true→e.on≠i)→oi.apart ops oj=true)→
   i∈Region.ready md ops listed→C w→(∀W,C W→∃v',YieldsAt P ops W oi v' a∧a.put oi.dst v'=a.put oi.dst v)→
   anyC P md ops C Q f (listed.setIfInBounds i true) (a.put oi.dst v) w→anyC P md ops C Q (f+1) listed a w:=by
 intro f;induction f with
 | zero=>
  intro listed a w _ hr hC hy H;refine⟨hC,fun h=>(by rw[h] at hr;cases hr),fun j hj=>?_⟩;by_cases hji:j=i
  ·subst hji;obtain⟨v',hy1,hy2⟩:=hy w hC;exact wpOp_of_stOp (fun a' h'=>h') (hy1.stOp (K:=fun a'=>anyC P md ops C Q 0 (listed.setIfInBounds j true) a' w) hi (by rw[hy2];exact H))
  ·have:=ready_mono hj hji;rw[H.2.1] at this;cases this
 | succ f ih=>
  intro listed a w hfree hr hC hy H;have hun:=(mem_ready.1 hr).1;refine⟨hC,fun h=>(by rw[h] at hr;cases hr),fun j hj=>?_⟩;by_cases hji:j=i
  ·subst hji;obtain⟨v',hy1,hy2⟩:=hy w hC;exact wpOp_of_stOp (fun a' h'=>h') (hy1.stOp (K:=fun a'=>anyC P md ops C Q (f+1) (listed.setIfInBounds j true) a' w) hi (by rw[hy2];exact H))
  ·have h1:=H.2.2 j (ready_mono hj hji);obtain⟨hjun,oj,hoj,hall⟩:=mem_ready.1 hj;have hnot:∀e∈oj.after,Region.binds md e=true→e.on≠i:=fun e he hb heq=>by
    have h1:=hall e he hb;rw[heq,getD_both hun] at h1;cases h1
   have hap:=hfree j oj hoj hji hjun hnot;have hap3:=(Oper.apart_spec hap);refine wpOp_put hoj hap (fun cs b=>hsel j oj cs b hoj) (fun ds u w' hk=>?_) h1;refine ih (listed.setIfInBounds j true) _ w' (fun k ok hk' hki hunk hno=>hfree k ok hk' hki (by
    by_cases hjk:j=k
    ·subst hjk;exact hjun
    ·rw[getD_set_ne true hjk] at hunk;exact hunk) hno) (ready_mono hr (Ne.symm hji)) (anyC_C hk) (fun W hW=>?_) (by rw[Array.setIfInBounds_comm _ _ hji];exact hk)
   obtain⟨v',hy1,hy2⟩:=hy W hW;refine⟨v',hy1.of_same ?_ ?_,?_⟩
   ·exact execOp_put oi (fun cs b=>hsel i oi cs b hi) ({a with defers:=ds++a.defers}:Act) oj.dst u hap3.2.2
   ·exact wanted_put oi ({a with defers:=ds++a.defers}:Act) oj.dst u hap3.2.2
   ·(have hb:∀x,({a with defers:=ds++a.defers}:Act).put oi.dst x={a.put oi.dst x with defers:=ds++a.defers}:=fun x=>by cases oi.dst<;>rfl);rw[←Act.put_comm _ v' u hap3.2.1,←Act.put_comm _ v u hap3.2.1,hb,hb,hy2]
def mixC (P:Program) (ops:Array Oper) (C:World→Prop) (Q:Exit→Act→World→Prop):List (Oper×Bool)→Act→World→Prop
 | [],a,w=>C w∧Q .normal a w
 | (o,true)::r,a,w=>∃A1,(∀m:Held C,wpStill P ops (HeldW m) (fun a'=>a'=A1) [o] a)∧C w∧mixC P ops C Q r A1 w
 | (o,false)::r,a,w=>C w∧wpList P ops (OnlyN fun _ a' w'=>mixC P ops C Q r a' w') [o] a w
def permB (md:Region.Mode) (ops:Array Oper):List (Nat×Bool)→Array Bool→Bool
 | [],listed=>(Region.ready md ops listed).isEmpty
 | (i,true)::r,listed=>(Region.ready md ops listed).contains i&&Region.free md ops listed i&&permB md ops r (listed.setIfInBounds i true)
 | (i,false)::r,listed=>decide (Region.ready md ops listed=[i])&&permB md ops r (listed.setIfInBounds i true)
def pickP (ops:Array Oper) (perm:List (Nat×Bool)):List (Oper×Bool):=perm.filterMap fun p=>(ops[p.1]?).map fun o=>(o,p.2)
theorem anyC_of_mix (hs:Region.noSelect ops=true):∀(perm:List (Nat×Bool)) (listed:Array Bool) (a:Act) (w:World),permB md ops perm listed=true→mixC P ops C Q (pickP ops perm) a w→anyC P md ops C Q perm.length listed a w
 | [],listed,a,w,hB,h=>⟨h.1,by simpa [permB] using hB,h.2⟩
 | (i,true)::r,listed,a,w,hB,h=>by
  simp only[permB,Bool.and_eq_true] at hB;obtain⟨⟨hr,hf⟩,hB'⟩:=hB;have hr':i∈Region.ready md ops listed:=by simpa using hr
  obtain⟨_,o,ho,_⟩:=mem_ready.1 hr';have e:pickP ops ((i,true)::r)=(o,true)::pickP ops r:=by unfold pickP;simp [ho]
  rw[e] at h;obtain⟨A1,hv,hC,hm⟩:=h;have hst:∀W,C W→∃v',YieldsAt P ops W o v' a∧a.put o.dst v'=A1:=fun W hW=>by
   (have h1:stOp P ops W i (fun a'=>a'=A1) a:=by unfold stOp;simp only[ho];exact hv ⟨W,hW⟩);exact yieldsAt_of_stOp ho h1
  obtain⟨v,_,rfl⟩:=hst w hC;exact anyC_first ho (Region.noSelect_spec hs) r.length listed a w (Region.free_spec ho hf) hr' hC hst (anyC_of_mix hs r _ _ w hB' hm)
 | (i,false)::r,listed,a,w,hB,h=>by
  simp only[permB,Bool.and_eq_true,decide_eq_true_eq] at hB;obtain⟨hr,hB'⟩:=hB;have hr':i∈Region.ready md ops listed:=by rw[hr];simp
  obtain⟨_,o,ho,_⟩:=mem_ready.1 hr';have e:pickP ops ((i,false)::r)=(o,false)::pickP ops r:=by unfold pickP;simp [ho]
  rw[e] at h;obtain⟨hC,hw⟩:=h;refine⟨hC,by rw[hr];simp,fun j hj=>?_⟩;rw[hr] at hj;obtain rfl:j=i:=by simpa using hj
  have hgo:∀(a':Act) (w':World),mixC P ops C Q (pickP ops r) a' w'→anyC P md ops C Q r.length (listed.setIfInBounds j true) a' w':=fun a' w' hm=>anyC_of_mix hs r _ a' w' hB' hm
  unfold wpOp;simp only[ho];simp only[wpList] at hw;split
  ·rename_i hwt
   rw[if_pos hwt] at hw;rcases hw with hw | hw
   ·(left);unfold Oper.wp at*;generalize (execOp a.eval o).run P w=res at*;cases res with
    | ok n w'=>
     cases n<;>simp only[Oper.upon] at hw⊢
     case value u=>exact hgo _ _ hw
     case skip=>exact hgo _ _ hw
     case defer d=>exact hgo _ _ hw
     case enter f args=>exact Calls.mono hw (fun e w'' he=>by
      cases e
      ·exact hgo _ _ he
      ·exact he
      ·exact absurd he OnlyN.out)
     case row row args=>exact Rows.mono hw (fun v w'' he=>hgo _ _ he)
    | halt x w'=>cases x<;>simp only[Oper.upon] at hw⊢<;>exact hw
   ·exact absurd hw.2 OnlyN.out
  ·rename_i hwt
   rw[if_neg hwt] at hw;exact hgo _ _ hw
end
theorem wp_region_mix {P:Program}(C:World→Prop)(perm:List (Nat×Bool)){id:Nat}{Q:Exit→Act→World→Prop}{a:Act}{w:World}{l:List Oper}(hm:P.follows .mixedOrders=true)
  (hB:(Region.noSelect l.toArray&&decide (perm.length=l.length)&&permB .any l.toArray perm (Array.replicate l.length false))=true)
  (h:mixC P l.toArray C Q (pickP l.toArray perm) a w.drew):(Code.region id l.toArray true).wp P Q a w:=by
 simp only[Bool.and_eq_true,decide_eq_true_eq] at hB;obtain⟨⟨hs,hl⟩,hp⟩:=hB;refine Code.wp_mono OnlyN.imp (wp_region_any hm (wpAny_of_anyC (C:=C) _ _ _ _ ?_));have:=anyC_of_mix (C:=C) (Q:=Q) hs perm (Array.replicate l.length false) a w.drew hp h;rw[hl] at this
 simpa using this
theorem mix_nil {P:Program}{ops:Array Oper}{C:World→Prop}{Q:Exit→Act→World→Prop}{a:Act}{w:World}(hC:C w)(h:Q .normal a w):mixC P ops C Q [] a w:=⟨hC,h⟩
theorem still_of_quiet {P:Program}{ops:Array Oper}{o:Oper}{a A1:Act}{W:World}(h:wpQuiet P ops (fun w'=>∃_:Unit,w'=W) (fun a'=>a'=A1) [o] a):wpStill P ops W (fun a'=>a'=A1) [o] a:=by
 simp only[wpQuiet,wpStill] at*;split
 ·rename_i hw
  rw[if_pos hw] at h;obtain⟨v,h1,h2⟩:=h;have h3:=h1 W ⟨(),rfl⟩;unfold Oper.quietAt at h3;unfold Oper.still;generalize (execOp a.eval o).run P W=r at*;cases r with
  | ok n w'=>
   cases n<;>simp only[Oper.quietUpon] at h3<;>simp only[Oper.stillUpon]
   case value u=>exact⟨h3.1,by rw[h3.2];exact h2⟩
   case skip=>exact⟨h3.1,by rw[←h3.2];exact h2⟩
   case enter f args=>exact⟨h3.1,v,h3.2.mono fun e w'' he=>⟨he.1,by obtain⟨_,h⟩:=he.2;exact h⟩,h2⟩
  | halt x w'=>simp only[Oper.quietUpon] at h3
 ·rename_i hw
  rw[if_neg hw] at h;exact h
theorem mix_first {P:Program}{ops:Array Oper}{C:World→Prop}{Q:Exit→Act→World→Prop}{o:Oper}{r:List (Oper×Bool)}{a:Act}{w:World}
  (h:∃A1,(∀m:Held C,wpQuiet P ops (fun w'=>∃_:Unit,w'=HeldW m) (fun a'=>a'=A1) [o] a)∧C w∧mixC P ops C Q r A1 w):mixC P ops C Q ((o,true)::r) a w:=by
 obtain⟨A1,h1,h2,h3⟩:=h;exact⟨A1,fun m=>still_of_quiet (h1 m),h2,h3⟩
theorem mix_forced {P:Program}{ops:Array Oper}{C:World→Prop}{Q:Exit→Act→World→Prop}{o:Oper}{r:List (Oper×Bool)}{a:Act}{w:World}(hC:C w)
  (h:wpList P ops (OnlyN fun _ a' w'=>mixC P ops C Q r a' w') [o] a w):mixC P ops C Q ((o,false)::r) a w:=⟨hC,h⟩
section
variable {P:Program} {ops:Array Oper} {md:Region.Mode} {Q:Exit→Act→World→Prop} {C:World→Prop}
def DownB (md:Region.Mode) (ops:Array Oper) (listed:Array Bool):Prop:=∀(k:Nat) (ok:Oper),ops[k]? =some ok→listed.getD k false=true→∀e∈ok.after,Region.binds md e=true→listed.getD e.on false=true
theorem DownB.add {listed:Array Bool}(h:DownB md ops listed){i:Nat}(hi:i∈Region.ready md ops listed):DownB md ops (listed.setIfInBounds i true):=by
 intro k ok hk hl e he hb;by_cases hki:i=k
 ·subst hki;obtain⟨_,o,ho,hall⟩:=mem_ready.1 hi;rw[hk] at ho;cases ho
  exact getD_set_true (hall e he hb)
 ·rw[getD_set_ne false hki] at hl;exact getD_set_true (h k ok hk hl e he hb)
def anyD (P:Program) (md:Region.Mode) (ops:Array Oper) (C:World→Prop) (Q:Exit→Act→World→Prop):Nat→Array Bool→Act→World→Prop
 | 0,listed,a,w=>(∀j,listed.getD j true=true)∧Q .normal a w
 | f+1,listed,a,w=>C w∧Region.ready md ops listed≠[]∧∀i∈Region.ready md ops listed,wpOp P ops (OnlyN Q) i (anyD P md ops C Q f (listed.setIfInBounds i true)) a w
theorem wpAny_of_anyD:∀(f:Nat) (listed:Array Bool) (a:Act) (w:World),anyD P md ops C Q f listed a w→wpAny P md ops (OnlyN Q) f listed a w
 | 0,listed,a,w,h=>⟨by
   rw[List.eq_nil_iff_forall_not_mem];intro j hj;have:=(mem_ready.1 hj).1;rw[h.1 j] at this;exact absurd this (by decide),h.2⟩
 | f+1,listed,a,w,h=>⟨fun h0=>absurd h0 h.2.1,fun i hi=>wpOp_mono (fun a w=>wpAny_of_anyD f _ a w) (h.2.2 i hi)⟩
theorem anyD_first {i:Nat}{oi:Oper}{v:Value}(hi:ops[i]? =some oi)(hsel:∀(j:Nat) (o:Oper) cs b,ops[j]? =some o→o.op≠ .select cs b)
  (hdep:∃(k:Nat) (ok:Oper),ops[k]? =some ok∧k≠i∧∃e∈ok.after,Region.binds md e=true∧e.on=i):
  ∀(f:Nat) (listed:Array Bool) (a:Act) (w:World),
   (∀j oj,ops[j]? =some oj→j≠i→listed.getD j true=false→(∀e∈oj.after,Region.binds md e=true→e.on≠i)→oi.apart ops oj=true)→
   DownB md ops listed→ops.size≤listed.size→i∈Region.ready md ops listed→C w→(∀W,C W→∃v',YieldsAt P ops W oi v' a∧a.put oi.dst v'=a.put oi.dst v)→
   anyD P md ops C Q f (listed.setIfInBounds i true) (a.put oi.dst v) w→anyD P md ops C Q (f+1) listed a w:=by
 intro f;induction f with
 | zero=>
  intro listed a w _ hdn hsz hr hC hy H;refine⟨hC,fun h=>(by rw[h] at hr;cases hr),fun j hj=>?_⟩;by_cases hji:j=i
  ·subst hji;obtain⟨v',hy1,hy2⟩:=hy w hC;exact wpOp_of_stOp (fun a' h'=>h') (hy1.stOp (K:=fun a'=>anyD P md ops C Q 0 (listed.setIfInBounds j true) a' w) hi (by rw[hy2];exact H))
  ·have h1:=(mem_ready.1 hj).1;have h2:=H.1 j;rw[getD_set_ne true (Ne.symm hji)] at h2;rw[h1] at h2;cases h2
 | succ f ih=>
  intro listed a w hfree hdn hsz hr hC hy H;have hun:=(mem_ready.1 hr).1;refine⟨hC,fun h=>(by rw[h] at hr;cases hr),fun j hj=>?_⟩;by_cases hji:j=i
  ·subst hji;obtain⟨v',hy1,hy2⟩:=hy w hC;exact wpOp_of_stOp (fun a' h'=>h') (hy1.stOp (K:=fun a'=>anyD P md ops C Q (f+1) (listed.setIfInBounds j true) a' w) hi (by rw[hy2];exact H))
  ·have h1:=H.2.2 j (ready_mono hj hji);obtain⟨hjun,oj,hoj,hall⟩:=mem_ready.1 hj;have hnot:∀e∈oj.after,Region.binds md e=true→e.on≠i:=fun e he hb heq=>by
    have h1:=hall e he hb;rw[heq,getD_both hun] at h1;cases h1
   have hap:=hfree j oj hoj hji hjun hnot;have hap3:=(Oper.apart_spec hap);refine wpOp_put hoj hap (fun cs b=>hsel j oj cs b hoj) (fun ds u w' hk=>?_) h1;have hCw:C w':=by
    cases f with
    | succ f=>exact hk.1
    | zero=>
     exfalso
     obtain⟨k,ok,hok,hki,e,he,hb,heo⟩:=hdep;by_cases hkj:k=j
     ·subst hkj;rw[hoj] at hok;(cases hok);exact hnot e he hb heo
     ·have h2:=hk.1 k;rw[getD_set_ne true (Ne.symm hkj),getD_set_ne true (Ne.symm hki)] at h2;rcases Nat.lt_or_ge k listed.size with hks | hks
      ·have h3:listed.getD k false=true:=by
        rw[Array.getD_eq_getD_getElem?,Array.getElem?_eq_getElem hks] at h2⊢
        simpa using h2
       have h4:=hdn k ok hok h3 e he hb;rw[heo,getD_both hun] at h4;cases h4
      ·
       have h5:k<ops.size:=(Array.getElem?_eq_some_iff.1 hok).1;omega
   refine ih (listed.setIfInBounds j true) _ w' (fun k ok hk' hki hunk hno=>hfree k ok hk' hki (by
    by_cases hjk:j=k
    ·subst hjk;exact hjun
    ·rw[getD_set_ne true hjk] at hunk;exact hunk) hno) (hdn.add hj) (by rw[Array.size_setIfInBounds];exact hsz) (ready_mono hr (Ne.symm hji)) hCw (fun W hW=>?_) (by rw[Array.setIfInBounds_comm _ _ hji];exact hk)
   obtain⟨v',hy1,hy2⟩:=hy W hW;refine⟨v',hy1.of_same ?_ ?_,?_⟩
   ·exact execOp_put oi (fun cs b=>hsel i oi cs b hi) ({a with defers:=ds++a.defers}:Act) oj.dst u hap3.2.2
   ·exact wanted_put oi ({a with defers:=ds++a.defers}:Act) oj.dst u hap3.2.2
   ·(have hb:∀x,({a with defers:=ds++a.defers}:Act).put oi.dst x={a.put oi.dst x with defers:=ds++a.defers}:=fun x=>by cases oi.dst<;>rfl);rw[←Act.put_comm _ v' u hap3.2.1,←Act.put_comm _ v u hap3.2.1,hb,hb,hy2]
def mixD (P:Program) (ops:Array Oper) (C:World→Prop) (Q:Exit→Act→World→Prop):List (Oper×Bool)→Act→World→Prop
 | [],a,w=>Q .normal a w
 | (o,true)::r,a,w=>∃A1,(∀m:Held C,wpStill P ops (HeldW m) (fun a'=>a'=A1) [o] a)∧C w∧mixD P ops C Q r A1 w
 | (o,false)::r,a,w=>C w∧wpList P ops (OnlyN fun _ a' w'=>mixD P ops C Q r a' w') [o] a w
def awaited (md:Region.Mode) (ops:Array Oper) (i:Nat):Bool:=(List.range ops.size).any fun k=>decide (k≠i)&&(match ops[k]?with | some ok=>ok.after.any fun e=>Region.binds md e&&decide (e.on=i) | none=>false)
theorem awaited_spec {i:Nat}(h:awaited md ops i=true):∃(k:Nat) (ok:Oper),ops[k]? =some ok∧k≠i∧∃e∈ok.after,Region.binds md e=true∧e.on=i:=by
 unfold awaited at h;obtain⟨k,_,hk⟩:=List.any_eq_true.1 h;simp only[Bool.and_eq_true,decide_eq_true_eq] at hk;obtain⟨hne,hk⟩:=hk;cases ho:ops[k]?with
 | none=>rw[ho] at hk;cases hk
 | some ok=>
  rw[ho] at hk;obtain⟨e,he,hb⟩:=Array.any_eq_true'.1 hk;simp only[Bool.and_eq_true,decide_eq_true_eq] at hb;exact⟨k,ok,ho,hne,e,he,hb.1,hb.2⟩
def permD (md:Region.Mode) (ops:Array Oper):List (Nat×Bool)→Array Bool→Bool
 | [],listed=>listed.all id
 | (i,true)::r,listed=>(Region.ready md ops listed).contains i&&Region.free md ops listed i&&awaited md ops i&&permD md ops r (listed.setIfInBounds i true)
 | (i,false)::r,listed=>decide (Region.ready md ops listed=[i])&&permD md ops r (listed.setIfInBounds i true)
theorem anyD_of_mix (hs:Region.noSelect ops=true):∀(perm:List (Nat×Bool)) (listed:Array Bool) (a:Act) (w:World),DownB md ops listed→ops.size≤listed.size→permD md ops perm listed=true→mixD P ops C Q (pickP ops perm) a w→anyD P md ops C Q perm.length listed a w
 | [],listed,a,w,_,_,hB,h=>⟨fun j=>by
   simp only[permD] at hB;rcases Nat.lt_or_ge j listed.size with hj | hj
   ·rw[Array.getD_eq_getD_getElem?,Array.getElem?_eq_getElem hj];have:=Array.all_eq_true.1 hB j hj
    simpa using this
   ·rw[Array.getD_eq_getD_getElem?,Array.getElem?_eq_none hj];rfl,h⟩
 | (i,true)::r,listed,a,w,hdn,hsz,hB,h=>by
  simp only[permD,Bool.and_eq_true] at hB;obtain⟨⟨⟨hr,hf⟩,haw⟩,hB'⟩:=hB;have hr':i∈Region.ready md ops listed:=by simpa using hr
  obtain⟨_,o,ho,_⟩:=mem_ready.1 hr';have e:pickP ops ((i,true)::r)=(o,true)::pickP ops r:=by unfold pickP;simp [ho]
  rw[e] at h;obtain⟨A1,hv,hC,hm⟩:=h;have hst:∀W,C W→∃v',YieldsAt P ops W o v' a∧a.put o.dst v'=A1:=fun W hW=>by
   (have h1:stOp P ops W i (fun a'=>a'=A1) a:=by unfold stOp;simp only[ho];exact hv ⟨W,hW⟩);exact yieldsAt_of_stOp ho h1
  obtain⟨v,_,rfl⟩:=hst w hC;exact anyD_first ho (Region.noSelect_spec hs) (awaited_spec haw) r.length listed a w (Region.free_spec ho hf) hdn hsz hr' hC hst (anyD_of_mix hs r _ _ w (hdn.add hr') (by rw[Array.size_setIfInBounds];exact hsz) hB' hm)
 | (i,false)::r,listed,a,w,hdn,hsz,hB,h=>by
  simp only[permD,Bool.and_eq_true,decide_eq_true_eq] at hB;obtain⟨hr,hB'⟩:=hB;have hr':i∈Region.ready md ops listed:=by rw[hr];simp
  obtain⟨_,o,ho,_⟩:=mem_ready.1 hr';have e:pickP ops ((i,false)::r)=(o,false)::pickP ops r:=by unfold pickP;simp [ho]
  rw[e] at h;obtain⟨hC,hw⟩:=h;refine⟨hC,by rw[hr];simp,fun j hj=>?_⟩;rw[hr] at hj;obtain rfl:j=i:=by simpa using hj
  have hgo:∀(a':Act) (w':World),mixD P ops C Q (pickP ops r) a' w'→anyD P md ops C Q r.length (listed.setIfInBounds j true) a' w':=fun a' w' hm=>anyD_of_mix hs r _ a' w' (hdn.add hr') (by rw[Array.size_setIfInBounds];exact hsz) hB' hm
  unfold wpOp;simp only[ho];simp only[wpList] at hw;split
  ·rename_i hwt
   rw[if_pos hwt] at hw;rcases hw with hw | hw
   ·(left);unfold Oper.wp at*;generalize (execOp a.eval o).run P w=res at*;cases res with
    | ok n w'=>
     cases n<;>simp only[Oper.upon] at hw⊢
     case value u=>exact hgo _ _ hw
     case skip=>exact hgo _ _ hw
     case defer d=>exact hgo _ _ hw
     case enter f args=>exact Calls.mono hw (fun e w'' he=>by
      cases e
      ·exact hgo _ _ he
      ·exact he
      ·exact absurd he OnlyN.out)
     case row row args=>exact Rows.mono hw (fun v w'' he=>hgo _ _ he)
    | halt x w'=>cases x<;>simp only[Oper.upon] at hw⊢<;>exact hw
   ·exact absurd hw.2 OnlyN.out
  ·rename_i hwt
   rw[if_neg hwt] at hw;exact hgo _ _ hw
end
theorem wp_region_mixD {P:Program}(C:World→Prop)(perm:List (Nat×Bool)){id:Nat}{Q:Exit→Act→World→Prop}{a:Act}{w:World}{l:List Oper}(hm:P.follows .mixedOrders=true)
  (hB:(Region.noSelect l.toArray&&decide (perm.length=l.length)&&permD .any l.toArray perm (Array.replicate l.length false))=true)
  (h:mixD P l.toArray C Q (pickP l.toArray perm) a w.drew):(Code.region id l.toArray true).wp P Q a w:=by
 simp only[Bool.and_eq_true,decide_eq_true_eq] at hB;obtain⟨⟨hs,hl⟩,hp⟩:=hB;refine Code.wp_mono OnlyN.imp (wp_region_any hm (wpAny_of_anyD (C:=C) _ _ _ _ ?_));have:=anyD_of_mix (C:=C) (Q:=Q) hs perm (Array.replicate l.length false) a w.drew (fun k ok _ hl=>by
  rw[Array.getD_eq_getD_getElem?] at hl;rcases Nat.lt_or_ge k l.length with hk | hk
  ·simp [hk] at hl
  ·rw[Array.getElem?_eq_none (by simpa using hk)] at hl;cases hl) (by simp) hp h
 rw[hl] at this
 simpa using this
theorem mixD_nil {P:Program}{ops:Array Oper}{C:World→Prop}{Q:Exit→Act→World→Prop}{a:Act}{w:World}(h:Q .normal a w):mixD P ops C Q [] a w:=h
theorem mixD_first {P:Program}{ops:Array Oper}{C:World→Prop}{Q:Exit→Act→World→Prop}{o:Oper}{r:List (Oper×Bool)}{a:Act}{w:World}
  (h:∃A1,(∀m:Held C,wpQuiet P ops (fun w'=>∃_:Unit,w'=HeldW m) (fun a'=>a'=A1) [o] a)∧C w∧mixD P ops C Q r A1 w):mixD P ops C Q ((o,true)::r) a w:=by
 obtain⟨A1,h1,h2,h3⟩:=h;exact⟨A1,fun m=>still_of_quiet (h1 m),h2,h3⟩
theorem mixD_forced {P:Program}{ops:Array Oper}{C:World→Prop}{Q:Exit→Act→World→Prop}{o:Oper}{r:List (Oper×Bool)}{a:Act}{w:World}(hC:C w)
  (h:wpList P ops (OnlyN fun _ a' w'=>mixD P ops C Q r a' w') [o] a w):mixD P ops C Q ((o,false)::r) a w:=⟨hC,h⟩
end Sw
namespace Sw
open Go Go.RowKit
structure TurnB (F:Nat→Prop) (w w':World):Prop where
 os:w'.os=w.os
 tape:w'.tape=w.tape
 output:w'.output=w.output
 size:w.heap.size≤w'.heap.size
 block:∀k,k<w.heap.size→¬F k→w'.heap[k]? =w.heap[k]?
section
variable {F G:Nat→Prop} {a w w':World}
theorem TurnB.refl (F:Nat→Prop)(w:World):TurnB F w w:=⟨rfl,rfl,rfl,zN _,fun _ _ _=>rfl⟩
theorem TurnB.trans (h:TurnB F a w)(k:TurnB G w w')(hG:∀i,G i→F i∨a.heap.size≤i):TurnB F a w':=
 ⟨k.os.trans h.os,k.tape.trans h.tape,k.output.trans h.output,zT h.size k.size,fun i hi hn=>(k.block i (zQ hi h.size) (fun hg=>by
  rcases hG i hg with h1 | h1
  ·exact hn h1
  ·omega)).trans (h.block i hi hn)⟩
theorem TurnB.grown {row:Option Nat}(h:TurnB F a w)(k:w.grownBy w' row)(hr:∀g,row=some g→F g∨a.heap.size≤g):TurnB F a w':=
 ⟨k.os.trans h.os,k.tape.trans h.tape,k.output.trans h.output,zT h.size k.size,fun i hi hn=>(k.block i (zQ hi h.size) (fun hg=>by
  rcases hr i hg.symm with h1 | h1
  ·exact hn h1
  ·omega)).trans (h.block i hi hn)⟩
theorem TurnB.below (h:TurnB F a w)(k:Below w.heap.size w w'):TurnB F a w':=h.grown (grown_below (row:=none) k) (fun g hg=>by cases hg)
theorem TurnB.of_below (k:Below w.heap.size w w'):TurnB F w w':=(TurnB.refl F w).below k
theorem TurnB.put (h:TurnB F a w)(p:Addr)(hp:F p.block∨a.heap.size≤p.block)(u:Value):TurnB F a (w.setCell p u):=
 h.trans (G:=fun i=>i=p.block) ⟨rfl,rfl,rfl,by simp [World.setCell],fun i hi hn=>zJ w p u i hn⟩ (fun i hi=>by rw[hi];exact hp)
theorem TurnB.to_below {B:Nat}(h:TurnB F w w')(hB:B≤w.heap.size)(hF:∀i,F i→B≤i):Below B w w':=
 ⟨h.os,h.tape,h.output,h.size,fun k hk=>h.block k (by omega) (fun hf=>by have:=hF k hf;omega)⟩
theorem TurnB.mono (h:TurnB F w w')(hF:∀i,F i→G i):TurnB G w w':=⟨h.os,h.tape,h.output,h.size,fun k hk hn=>h.block k hk (fun hf=>hn (hF k hf))⟩
theorem Blk.turnB {g:Nat}{t:TypeId}{cs:Array Value}(h:Blk w g t cs)(k:TurnB F w w')(hn:¬F g):Blk w' g t cs:=by
 have:=k.block g h.lt hn;unfold Blk at h⊢;rw[this,h]
theorem own_sameB {base:Nat}{e:TypeId}{size:Nat}{v:Value}{n:Nat}{xs:List Value}(h:w.ownsRow base e size v n xs)(hb:∀g,v.ownBlock=some g→w'.heap[g]? =w.heap[g]?):w'.ownsRow base e size v n xs:=by
 refine⟨h.1,?_⟩;rcases h.2 with h0 | ⟨g,cap,cur,hv,hg,h1,h2⟩
 ·exact .inl h0
 ·exact .inr ⟨g,cap,cur,hv,hg,(hb g (by rw[hv];rfl)).trans h1,h2⟩
theorem own_blkB {base:Nat}{e:TypeId}{size:Nat}{v:Value}{n:Nat}{xs:List Value}(h:w.ownsRow base e size v n xs){g:Nat}(hg:v.ownBlock=some g):∃cur,Blk w g e cur:=by
 rcases h.2 with ⟨rfl,_⟩ | ⟨g',cap,cur,rfl,_,h1,_⟩
 ·cases hg
 ·cases hg
  exact⟨cur,h1⟩
end
end Sw
namespace Go.Proofs.YtnpehjgnplaabaaGreatDoor
open Go Go.RowKit
open Sw
def ItC (w:World) (N:Nat) (cs:Array Value) (W:World):Prop:=Below w.heap.size w W∧Blk W N 59 cs
theorem ref26Marks_any (w:World)(v:Value)(l:List NE)(h:SlV w 5 eCSN v l)(hl:l.length≤1000)(hd:∀e∈l,e.2.data.size≤maxLen):
  Calls Tryz.prog 74 #[v] w fun e w'=>∃r,e= .returned r∧OwnMk w' w.heap.size r (marksT l)∧Below w.heap.size w w':=by
 obtain⟨A,c,rfl,hc1,hc2,hsl⟩:=h;obtain⟨n,hn⟩:∃n,l.length=n:=⟨_,rfl⟩;rw[hn] at hc1 hl⊢;unfold maxLen at hc2;have HN:=zH hn;clear hn;have HS:=zH hsl;clear hsl;have HD:=zH hd;clear hd;go_enter Tryz.func74,Tryz.ntmps74
 go_wp2_with fail
 go_loopw [3,8] (fun ov iv wr=>∃i:Nat,i≤n∧iv= .int .i64 i∧OwnMk wr w.heap.size ov (marksT (l.take i))∧Below w.heap.size w wr) (fun _ iv _=>n-(intOf iv).toNat)
 case atStart=>exact⟨0,Nat.zero_le _,rfl,World.ownsRow_nil _ _ _ _,zR _ _⟩
 case round=>
  obtain⟨i,hi,rfl,ho,hb⟩:=hrel;obtain⟨K,hK⟩:∃K,marksT (l.take i)=K:=⟨_,rfl⟩;rw[hK] at ho;have hkl:K.length=i:=by rw[←hK];unfold marksT;rw[zS,zL];have:=HN.out;omega
  unfold OwnMk at ho;rw[hkl] at ho;obtain⟨A3,c3,rfl,-,-,-⟩:=SlV_of_any ho;by_cases hlt:i<n
  ·have hiL:i<l.length:=by have:=HN.out;omega
   obtain⟨b,off,rfl,hbb,hcs⟩:=(HS.out.below hb (zN _)) (by omega);obtain⟨p0,p1,p2,p3,p4⟩:=zs5 (hcs i hiL);simp only[eCSN,qB,qC,Nat.add_zero] at p0 p1 p2 p3 p4;clear hcs;(have hi1:(i:Int)<n:=by omega);(have hPR:=fun W=>refPrint_any W l[i].2 (HD.out _ (zP hiL)));(have htk:marksT (l.take (i+1))=K++[(l[i].1,printN l[i].2)]:=by rw[←hK];unfold marksT;rw[zG hiL,List.map_append];rfl);obtain⟨x,hx⟩:∃x,l[i]=x:=⟨_,rfl⟩;simp only[hx] at p0 p1 p2 p3 p4 hPR htk;clear hx;obtain⟨q,ka,kb,kc,kd⟩:=x;simp only at p0 p1 p2 p3 p4 hPR htk;obtain⟨pr,hpr⟩:∃p,printN ⟨ka,kb,kc,kd⟩=p:=⟨_,rfl⟩;rw[hpr] at htk;simp only[hpr] at hPR;clear hpr;obtain⟨fa,fb,fc,fd,fs⟩:=pr;simp only[Pr.c,Nd.c] at hPR;have HPR:=zH hPR;obtain⟨V,hV⟩:∃V,wr.alloc (.cells #[.string q,.int .i64 ka,.int .i64 kb,.int .u32 kc,.string kd] 59)=V:=⟨_,rfl⟩;obtain⟨N,hN⟩:∃n,wr.heap.size=n:=⟨_,rfl⟩;(have hBN:Blk V N 59 #[.string q,.int .i64 ka,.int .i64 kb,.int .u32 kc,.string kd]:=by rw[←hV,←hN];exact Blk.new _ _ _);(have hbV:Below wr.heap.size wr V:=by rw[←hV];exact(zR _ wr).alloc (zN _) _);have HC0:=zH (show ItC w N #[.string q,.int .i64 ka,.int .i64 kb,.int .u32 kc,.string kd] V.drew from⟨(hb.trans (hbV.mono hb.size)).drew,hBN⟩);have HV:=zH (zA hbV (zA ho (zA htk (zA hkl hb))));have HVQ:=zH hV;clear hPR hBN hbV ho htk hkl hb hV hK;(go_upto_region 5 with fail);rw[HVQ.out];(try rw[hN]);refine wp_region_mixD (ItC w N #[.string q,.int .i64 ka,.int .i64 kb,.int .u32 kc,.string kd]) [(0,true),(1,true),(2,true),(3,true),(4,true),(5,false),(6,true),(7,false),(8,false),(9,false)] (by kernel_rfl) (by kernel_rfl) ?_;simp only[pickP,List.filterMap_cons,List.filterMap_nil,qA,qB,qC,Option.map_some];(have k0:∀m:Held (ItC w N #[.string q,.int .i64 ka,.int .i64 kb,.int .u32 kc,.string kd]),(HeldW m).cell? ⟨N,0,none⟩=some (.string q):=fun m=>(HeldW_spec m).2.cell 0);(have k1:∀m:Held (ItC w N #[.string q,.int .i64 ka,.int .i64 kb,.int .u32 kc,.string kd]),(HeldW m).cell? ⟨N,1,none⟩=some (.int .i64 ka):=fun m=>(HeldW_spec m).2.cell 1);(have k2:∀m:Held (ItC w N #[.string q,.int .i64 ka,.int .i64 kb,.int .u32 kc,.string kd]),(HeldW m).cell? ⟨N,2,none⟩=some (.int .i64 kb):=fun m=>(HeldW_spec m).2.cell 2);(have k3:∀m:Held (ItC w N #[.string q,.int .i64 ka,.int .i64 kb,.int .u32 kc,.string kd]),(HeldW m).cell? ⟨N,3,none⟩=some (.int .u32 kc):=fun m=>(HeldW_spec m).2.cell 3);(have k4:∀m:Held (ItC w N #[.string q,.int .i64 ka,.int .i64 kb,.int .u32 kc,.string kd]),(HeldW m).cell? ⟨N,4,none⟩=some (.string kd):=fun m=>(HeldW_spec m).2.cell 4);(repeat (apply mixD_first;apply Exists.intro;refine⟨fun m=>?_,HC0.out,?_⟩;·(go_big_quiet_step (fail);exact wpQuiet_nil rfl)));clear k0 k1 k2 k3 k4 p0 p1 p2 p3 p4;refine mixD_forced HC0.out ?_;(go_wp2_with fail);refine(HPR.out _).mono ?_;rintro e w2 ⟨rfl,hb2⟩;have hC2:ItC w N #[.string q,.int .i64 ka,.int .i64 kb,.int .u32 kc,.string kd] w2:=⟨HC0.out.1.trans (hb2.mono HC0.out.1.size),HC0.out.2.below hb2 HC0.out.2.lt⟩;have ho2:=own_kept (own_kept HV.out.2.1 HV.out.1) ((zR _ V).drew.trans hb2);have H2:=zH (zA hC2 ho2);clear hb2 hC2 ho2;(go_wp2_with fail);(show mixD ..);(apply mixD_first;apply Exists.intro;refine⟨fun m=>?_,H2.out.1,?_⟩;·(go_big_quiet_step (fail);exact wpQuiet_nil rfl));refine mixD_forced H2.out.1 ?_;(go_wp2_with fail);(show mixD ..);have HW2:=zH H2.out.1.1.size;refine mixD_forced (show ItC w N #[.string q,.int .i64 ka,.int .i64 kb,.int .u32 kc,.string kd] _ from⟨H2.out.1.1.alloc H2.out.1.1.size _,H2.out.1.2.alloc _⟩) ?_;(go_wp2_with (at_builtin;go_loud (refine wpList_app rfl _ _ 22 rfl w.heap.size 63 _ _ _ Tryz.underlying22 infoMk rfl (by decide) _ i (K.flatMap eCM) rfl (own_kept H2.out.2 ((zR _ _).alloc (zN _) _)) w2.heap.size 1 #[.string q,.int .i64 fa,.int .i64 fb,.int .u32 fc,.int .i64 fd,.int .u32 fs] 63 rfl (Blk.new w2 _ _) rfl (by simp [Value.oneCell']) (by omega) (by decide) (zT HW2.out (by simp)) _ rfl ?_;intro g cap w5 ho5 hg5 hat5 hlt5;have HO5:=zH (zA ho5 (zA hg5 hat5));clear ho5 hg5 hat5)));(show mixD ..);have hb5:Below w.heap.size w w5:=(H2.out.1.1.alloc H2.out.1.1.size (.cells #[.string q,.int .i64 fa,.int .i64 fb,.int .u32 fc,.int .i64 fd,.int .u32 fs] 63)).grown HO5.out.2.1 (zT HW2.out (by simp)) (fun k hk=>(H2.out.2.lt k hk).1);have hB5:Blk w5 N 59 #[.string q,.int .i64 ka,.int .i64 kb,.int .u32 kc,.string kd]:=(H2.out.1.2.alloc (.cells #[.string q,.int .i64 fa,.int .i64 fb,.int .u32 fc,.int .i64 fd,.int .u32 fs] 63)).grown HO5.out.2.1 (fun e=>by obtain⟨cur,hc⟩:=own_blkB H2.out.2 e.symm;exact Blk.other hc H2.out.1.2 (by decide) rfl);have HB5:=zH hb5;refine mixD_forced (show ItC w N #[.string q,.int .i64 ka,.int .i64 kb,.int .u32 kc,.string kd] _ from⟨hb5,hB5⟩) ?_;clear hb5 hB5;(go_wp2_with fail);(show mixD ..);refine mixD_nil ?_;(go_wp2_with fail);go_roundw
   case rel=>
    refine⟨i+1,by omega,by go_num,?_,HB5.out⟩;rw[HV.out.2.2.1];unfold OwnMk;rw[zF,HV.out.2.2.2.1,List.flatMap_append];exact HO5.out.1
   case measure=>simp [intOf];omega
  ·obtain rfl:i=n:=by omega
   have HE:=zH (zA ho (zA hb (zA hK hkl)));clear ho hb hK hkl;(go_wp2_with fail);go_ret;refine⟨_,rfl,?_,HE.out.2.1⟩;have h9:=HE.out.2.2.1;rw[zO (by have:=HN.out;omega)] at h9;rw[h9];unfold OwnMk;rw[HE.out.2.2.2];exact HE.out.1
theorem agree_snoc (L M:List MkE)(i:Nat)(h:i<L.length):agreeM (L.take (i+1)) M=agreeM (L.take i) M++if((findM M L[i].1).isSome&&decide ((findM M L[i].1).getD ⟨0,0,0,0,0⟩=L[i].2))=true then [L[i]] else []:=by
 unfold agreeM;rw[zG h,List.filter_append];congr 1
 have e:decide (findM M L[i].1=some L[i].2)=((findM M L[i].1).isSome&&decide ((findM M L[i].1).getD ⟨0,0,0,0,0⟩=L[i].2)):=by
  cases hf:findM M L[i].1 with
  | none=>simp
  | some p=>simp
 rw[List.filter_cons,List.filter_nil,e]
theorem ref26Of_any (w:World)(u v:Value)(a b:List NE)(hu:SlV w 5 eCSN u a)(hv:SlV w 5 eCSN v b)(ha:a.length≤1000)(hb:b.length≤1000)(hda:∀e∈a,e.2.data.size≤maxLen)(hdb:∀e∈b,e.2.data.size≤maxLen):
  Calls Tryz.prog 40 #[u,v] w fun e w'=>∃r,e= .returned r∧OwnMk w' w.heap.size r (agreeM (marksT a) (marksT b))∧Below w.heap.size w w':=by
 have HM1:=zH (ref26Marks_any w v b hv hb hdb);have HM2:=zH (fun V (hV:Below w.heap.size w V)=>ref26Marks_any V u a (hu.below hV (zN _)) ha hda);have hla:(marksT a).length≤1000:=by unfold marksT;rw[zS];exact ha
 have hlb:(marksT b).length≤1000:=by unfold marksT;rw[zS];exact hb
 clear hu hv ha hb hda hdb;generalize marksT a=L at*;generalize marksT b=M at*;go_enter Tryz.func40,Tryz.ntmps40
 go_wp2_with fail
 refine HM1.out.mono ?_;rintro e w1 ⟨r1,rfl,ho1,hb1⟩;have H1:=zH (zA hb1 ho1);obtain⟨A1,c1,rfl,-,-,-⟩:=SlV_of_any ho1;clear hb1 ho1 HM1;go_wp2_with fail
 refine(HM2.out w1 H1.out.1).mono ?_;rintro e w2 ⟨r2,rfl,ho2,hb2⟩;have hsv:=ho2.slv;obtain⟨A2,c2,rfl,-,hc2,-⟩:=hsv;obtain⟨n,hn⟩:∃n,L.length=n:=⟨_,rfl⟩;rw[hn] at ho2 hla⊢;obtain⟨nb,hnb⟩:∃n,M.length=n:=⟨_,rfl⟩;rw[hnb] at H1 hlb⊢;unfold maxLen at hc2;have hsv1:SlV w2 6 eCM (.slice A1 nb c1) M:=(H1.out.2.below hb2).slv;have H2:=zH (zA (H1.out.1.trans (hb2.mono H1.out.1.size)) (zA ho2.slv (zA hsv1 (zA hn hnb))));clear hb2 ho2 hn hnb HM2 hsv1;go_wp2_with fail
 go_loopw [5,16] (fun ov iv wr=>∃i:Nat,i≤n∧iv= .int .i64 i∧OwnMk wr w2.heap.size ov (agreeM (L.take i) M)∧Below w2.heap.size w2 wr) (fun _ iv _=>n-(intOf iv).toNat)
 case atStart=>exact⟨0,Nat.zero_le _,rfl,World.ownsRow_nil _ _ _ _,zR _ _⟩
 case round=>
  obtain⟨i,hi,rfl,ho,hb⟩:=hrel;by_cases hlt:i<n
  ·have hiL:i<L.length:=by have:=H2.out.2.2.2.1;omega
   obtain⟨K,hK⟩:∃K,agreeM (L.take i) M=K:=⟨_,rfl⟩;rw[hK] at ho;(have hkl:K.length≤1000:=by rw[←hK];unfold agreeM;exact zT (List.length_filter_le _ _) (by rw[zL];omega));obtain⟨k,hkk⟩:∃k,K.length=k:=⟨_,rfl⟩;unfold OwnMk at ho;rw[hkk] at ho hkl;obtain⟨A3,c3,rfl,-,-,-⟩:=SlV_of_any ho;obtain⟨A',c',hA',_,_,hso⟩:=H2.out.2.1.below hb (zN _);rw[H2.out.2.2.2.1] at hA';(obtain⟨rfl,rfl⟩:A2=A'∧c2=c':=by injection hA' with e1 e2 e3;exact⟨e1,e3⟩);clear hA';obtain⟨b',off,rfl,hbb,hcs⟩:=hso (by omega);obtain⟨p0,p1,p2,p3,p4,p5⟩:=zs6 (hcs i hiL);simp only[eCM,qB,qC,Nat.add_zero] at p0 p1 p2 p3 p4 p5;clear hcs hso;(have hi1:(i:Int)<n:=by omega);have htk:=agree_snoc L M i hiL;rw[hK] at htk;obtain⟨x,hx⟩:∃x,L[i]=x:=⟨_,rfl⟩;simp only[hx] at p0 p1 p2 p3 p4 p5 htk;clear hx;obtain⟨q,pr⟩:=x;simp only at p0 p1 p2 p3 p4 p5 htk;(have hGT:=fun W (hW:Below w2.heap.size w2 W)=>refGet26_any W (.slice A1 nb c1) M q (H2.out.2.2.1.below hW (zN _)) (by have:=H2.out.2.2.2.2;omega));(have hEQ:=fun W=>eq_print ((findM M q).getD ⟨0,0,0,0,0⟩) pr W);obtain⟨had,hhad⟩:∃s,(findM M q).isSome=s:=⟨_,rfl⟩;obtain⟨g,hg⟩:∃s,(findM M q).getD ⟨0,0,0,0,0⟩=s:=⟨_,rfl⟩;rw[hhad,hg] at htk;simp only[hhad,hg] at hGT;simp only[hg] at hEQ;obtain⟨B,hB⟩:∃s,decide (g=pr)=s:=⟨_,rfl⟩;rw[hB] at htk;simp only[hB] at hEQ;clear hhad hg hB;obtain⟨fa,fb,fc,fd,fs⟩:=pr;obtain⟨ga,gb,gc,gd,gs⟩:=g;simp only[Pr.c] at hGT hEQ;have HGT:=zH hGT;have HEQ:=zH hEQ;obtain⟨V,hV⟩:∃V,wr.alloc (.cells #[.string q,.int .i64 fa,.int .i64 fb,.int .u32 fc,.int .i64 fd,.int .u32 fs] 63)=V:=⟨_,rfl⟩;obtain⟨N,hN⟩:∃n,wr.heap.size=n:=⟨_,rfl⟩;(have hBN:Blk V N 63 #[.string q,.int .i64 fa,.int .i64 fb,.int .u32 fc,.int .i64 fd,.int .u32 fs]:=by rw[←hV,←hN];exact Blk.new _ _ _);(have hbV:Below wr.heap.size wr V:=by rw[←hV];exact(zR _ wr).alloc (zN _) _);have n0:=hBN.cell 0;simp only[qA,qB,qC] at n0;have HV:=zH (zA hbV (zA ho (zA htk (zA hkk (zA hb hBN)))));clear hGT hEQ hBN hbV ho htk hkk hb hK;(go_wp2_with fail);refine(HGT.out V (HV.out.2.2.2.2.1.trans (HV.out.1.mono HV.out.2.2.2.2.1.size))).mono ?_;rintro e w3 ⟨rfl,hb3⟩;obtain⟨V3,hV3⟩:∃V,w3.alloc (.cells #[.int .i64 ga,.int .i64 gb,.int .u32 gc,.int .i64 gd,.int .u32 gs] 61)=V:=⟨_,rfl⟩;obtain⟨N3,hN3⟩:∃n,w3.heap.size=n:=⟨_,rfl⟩;(have hBN3:Blk V3 N3 61 #[.int .i64 ga,.int .i64 gb,.int .u32 gc,.int .i64 gd,.int .u32 gs]:=by rw[←hV3,←hN3];exact Blk.new _ _ _);(have hb33:Below w3.heap.size w3 V3:=by rw[←hV3];exact(zR _ w3).alloc (zN _) _);have hbV3:Below V.heap.size V V3:=hb3.trans (hb33.mono hb3.size);have hBNV:=HV.out.2.2.2.2.2.below hbV3 HV.out.2.2.2.2.2.lt;have hrV3:Below wr.heap.size wr V3:=HV.out.1.trans (hbV3.mono HV.out.1.size);have H3:=zH (zA hrV3 (own_kept HV.out.2.1 hrV3));obtain⟨x0,x1,x2,x3,x4⟩:=zc5 hBN3;obtain⟨y0,y1,y2,y3,y4,y5⟩:=zc6 hBNV;simp only[qA,qB,qC] at x0 x1 x2 x3 x4 y0 y1 y2 y3 y4 y5;have hskip:((had&&B)=false)→∃i':Nat,i'≤n∧Value.int .i64 ((i:Int)+1)= .int .i64 i'∧OwnMk V3 w2.heap.size (.slice A3 k c3) (agreeM (L.take i') M)∧Below w2.heap.size w2 V3:=fun hf=>by
    refine⟨i+1,by omega,by go_num,?_,HV.out.2.2.2.2.1.trans (H3.out.1.mono HV.out.2.2.2.2.1.size)⟩;rw[HV.out.2.2.1,if_neg (by rw[hf];decide),List.append_nil];unfold OwnMk;rw[HV.out.2.2.2.1];exact H3.out.2
   have HSK:=zH hskip;clear hskip hb3 hBN3 hb33 hbV3 hBNV hrV3 n0 p0 p1 p2 p3 p4 p5 HGT hV;have HEQ2:=HEQ.out;cases had with
   | false=>
    (go_wp2_with fail);clear hV3;go_roundw
    case rel=>exact HSK.out rfl
    case measure=>simp [intOf];omega
   | true=>
    cases B with
    | false=>
     (go_wp2_with fail);clear hV3;go_roundw
     case rel=>exact HSK.out rfl
     case measure=>simp [intOf];omega
    | true=>
     have HB3:=zH (zT HV.out.2.2.2.2.1.size H3.out.1.size);(go_wp2_with (at_builtin;go_loud (refine wpList_app rfl _ _ 22 rfl w2.heap.size 63 _ _ _ Tryz.underlying22 infoMk rfl (by decide) _ k (K.flatMap eCM) rfl (own_kept H3.out.2 ((zR _ _).alloc (zN _) _)) V3.heap.size 1 #[.string q,.int .i64 fa,.int .i64 fb,.int .u32 fc,.int .i64 fd,.int .u32 fs] 63 rfl (Blk.new V3 _ _) rfl (by simp [Value.oneCell']) (by omega) (by decide) (zT HB3.out (by simp)) _ rfl ?_;intro g' cap w5 ho5 hg5 hat5 hlt5;have HO5:=zH (zA ho5 (zA hg5 hat5));clear ho5 hg5 hat5)));go_roundw
     case rel=>
      refine⟨i+1,by omega,by go_num,?_,((HV.out.2.2.2.2.1.trans (H3.out.1.mono HV.out.2.2.2.2.1.size)).alloc HB3.out _).grown HO5.out.2.1 (zT HB3.out (by simp)) (fun j hj=>(H3.out.2.lt j hj).1)⟩;rw[HV.out.2.2.1,if_pos (by first | rfl | decide)];unfold OwnMk;rw[zF,HV.out.2.2.2.1,List.flatMap_append];exact HO5.out.1
     case measure=>simp [intOf];omega
  ·obtain rfl:i=n:=by omega
   rw[zO (by have:=H2.out.2.2.2.1;omega)] at ho;obtain⟨K,hK⟩:∃K,agreeM L M=K:=⟨_,rfl⟩;rw[hK] at ho;obtain⟨k,hkk⟩:∃k,K.length=k:=⟨_,rfl⟩;unfold OwnMk at ho;rw[hkk] at ho;obtain⟨A3,c3,rfl,-,-,-⟩:=SlV_of_any ho;have HE:=zH (zA ho (zA hb (zA hkk hK)));clear ho hb hkk hK;(go_wp2_with fail);go_ret;refine⟨_,rfl,?_,H2.out.1.trans (HE.out.2.1.mono H2.out.1.size)⟩;rw[HE.out.2.2.2];unfold OwnMk;rw[HE.out.2.2.1];exact own_base HE.out.1 H2.out.1.size
end Go.Proofs.YtnpehjgnplaabaaGreatDoor
namespace Sw
open Go Go.RowKit
open Go.Maps (Keyed)
def asItV (v:Value):Option (DataW Value×List MemPlace):=some (.held v,[])
def lkV (u:Option Value) (z:DataW Value):DataW Value:=match u with | some v=> .held v | none=>z
structure KeyV {α:Type} (P:Program) (k:TypeId) (enc:α→Value) (lit:α→Lit) (ok:α→Prop):Prop where
 law:Keyed P k
 key:∀x,ok x→keyOf P k (enc x)=some (lit x)
 inj:∀x y,ok x→ok y→lit x=lit y→x=y
def MapV {α:Type} (w:World) (P:Program) (k:TypeId) (lit:α→Lit) (ok:α→Prop) (b n:Nat) (f:α→Option Value):Prop:=
 ∃D:DataW Value,w.ownsMap P k asItV b n D∧∀x,ok x→∀z,D.atKey (lit x) z=lkV (f x) z
open Classical in
noncomputable def updV {α:Type} (f:α→Option Value) (x:α) (v:Value):α→Option Value:=fun y=>if y=x then some v else f y
section
variable {α:Type} {P:Program} {k:TypeId} {enc:α→Value} {lit:α→Lit} {ok:α→Prop} {w w':World} {b n:Nat} {f:α→Option Value}
theorem MapV.lt (h:MapV w P k lit ok b n f):b<w.heap.size:=by obtain⟨D,h1,_⟩:=h;exact h1.lt
theorem MapV.kept {row:Option Nat}(h:MapV w P k lit ok b n f)(hg:w.grownBy w' row)(hne:some b≠row):MapV w' P k lit ok b n f:=by
 obtain⟨D,h1,h2⟩:=h;exact⟨D,h1.kept hg hne,h2⟩
theorem MapV.same (h:MapV w P k lit ok b n f)(hb:w'.heap[b]? =w.heap[b]?):MapV w' P k lit ok b n f:=by
 obtain⟨D,⟨es,clock,h0,h1,h2,h3⟩,h4⟩:=h;exact⟨D,⟨es,clock,hb.trans h0,h1,h2,h3⟩,h4⟩
theorem MapV.below {B:Nat}(h:MapV w P k lit ok b n f)(hb:Below B w w')(hB:b<B):MapV w' P k lit ok b n f:=h.same (hb.block b hB)
theorem MapV.made (w:World)(P:Program)(k:TypeId)(lit:α→Lit)(ok:α→Prop):MapV (w.alloc (.map #[] 0)) P k lit ok w.heap.size 0 (fun _=>none):=
 ⟨.map [],World.ownsMap_made w P k asItV,fun x _ z=>rfl⟩
theorem MapV.mono (h:MapV w P k lit ok b n f){m:Nat}(hm:n≤m):MapV w P k lit ok b m f:=by
 obtain⟨D,h1,h2⟩:=h;exact⟨D,h1.mono hm,h2⟩
section
variable {t e:TypeId} (hK:KeyV P k enc lit ok) (ht:P.underlying t=some (.map k e)) {z:Value}
include hK ht
theorem MapV.look (h:MapV w P k lit ok b n f)(hz:(zeroValue e).run P w= .ok z w){x:α}(hx:ok x):(Instr.lookup t (.map (some b)) (enc x) false).run P w= .ok ((f x).getD z) w:=by
 obtain⟨D,h1,h2⟩:=h;obtain⟨v,ps,hr,hv⟩:=h1.lookup hK.law ht hz (zd:= .held z) (zp:=[]) rfl (hK.key x hx);rw[h2 x hx] at hv;rw[hr];unfold asItV lkV at hv;cases hf:f x with
 | none=>rw[hf] at hv;simp at hv;simp [hv]
 | some u=>rw[hf] at hv;simp at hv;simp [hv]
theorem MapV.store (h:MapV w P k lit ok b n f)(hn:n<maxLen){x:α}(hx:ok x)(v:Value):
  ∃w',(Instr.mapUpdate t (.map (some b)) (enc x) v).run P w= .ok () w'∧MapV w' P k lit ok b (n+1) (updV f x v)∧w.grownBy w' (some b):=by
 obtain⟨D,h1,h2⟩:=h;obtain⟨w',hr,h3,h4⟩:=h1.update hK.law ht hn (hK.key x hx) (d:= .held v) (ps:=[]) (val:=v) rfl;refine⟨w',hr,⟨_,h3,fun y hy z=>?_⟩,h4⟩;unfold lkV updV;by_cases hyx:y=x
 ·subst hyx;rw[Maps.atKey_put_same h1.isMap (hK.law.key (hK.key y hy))];simp
 ·rw[Maps.atKey_put_other (fun h=>hyx (hK.inj y x hy hx h)),h2 y hy z,if_neg hyx];rfl
end
section
variable {ops:Array Oper} {rest:List Oper} {o:Oper} {a:Act} {Q:Exit→Act→World→Prop}
theorem wpList_storeV (hg:o.guard=none)(m x v:Operand)(t:TypeId)(hop:o.op=Op.mapUpdate t m x v)(e:TypeId)(hK:KeyV P k enc lit ok)(ht:P.underlying t=some (.map k e))
  (b n:Nat) (f:α→Option Value) (hm:a.eval m= .map (some b)) (h:MapV w P k lit ok b n f) (hn:n<maxLen) (i:α) (hx:a.eval x=enc i) (hi:ok i) (u:Value) (hv:a.eval v=u)
  (hC:∀w',MapV w' P k lit ok b (n+1) (updV f i u)→w.grownBy w' (some b)→wpList P ops Q rest (a.put o.dst undef) w'):wpList P ops Q (o::rest) a w:=by
 refine wpList_plain hg fun K' hK'=>?_
 obtain⟨w',hrun,r1,r2⟩:=h.store hK ht hn hi u;unfold Oper.wp;simp [execOp,hop,hm,hx,hv,hrun,Result.andThen]
 exact hK' _ _ (hC w' r1 r2)
end
end
def litT (s:ByteArray):Lit:= .string s.data.toList
def okT (s:ByteArray):Prop:=s.size≤maxLen
theorem keyStr {P:Program}{k:TypeId}(hk:P.underlying k=some .string):KeyV P k (fun s:ByteArray=>Value.string s) litT okT:=
 ⟨Maps.string_keyed hk,fun s hs=>by unfold keyOf litT;unfold okT at hs;rw[hk];simp [mapKey,hk];exact hs,fun x y _ _ h=>by
  unfold litT at h;injection h with h;obtain⟨⟨x⟩⟩:=x;obtain⟨⟨y⟩⟩:=y;simp at h
  rw[h]⟩
open Classical in
noncomputable def delV {α:Type} (f:α→Option Value) (x:α):α→Option Value:=fun y=>if y=x then none else f y
section
variable {α:Type} {P:Program} {k:TypeId} {enc:α→Value} {lit:α→Lit} {ok:α→Prop} {w w':World} {b n:Nat} {f:α→Option Value}
section
variable {t e:TypeId} (hK:KeyV P k enc lit ok) (ht:P.underlying t=some (.map k e)) {z:Value}
include hK ht
theorem MapV.look_ok (h:MapV w P k lit ok b n f)(hz:(zeroValue e).run P w= .ok z w){x:α}(hx:ok x):(Instr.lookup t (.map (some b)) (enc x) true).run P w= .ok (.tuple #[(f x).getD z,.bool (f x).isSome]) w:=by
 obtain⟨D,h1,h2⟩:=h;obtain⟨v,ps,hr,hv⟩:=h1.look_ok hK.law ht hz (zd:= .held z) (zp:=[]) rfl (hK.key x hx);have h3:=h2 x hx;rw[h3 (.held z)] at hv;rw[hr];unfold asItV lkV at hv;unfold lkV at h3;cases hf:f x with
 | none=>
  rw[hf] at hv h3;rw[Maps.has_false_of_atKey h3];simp at hv
  simp [hv]
 | some u=>
  rw[hf] at hv h3;rw[Maps.has_true_of_atKey h3];simp at hv
  simp [hv]
theorem MapV.drop (h:MapV w P k lit ok b n f){x:α}(hx:ok x)(ty:TypeId):
  ∃w',(Builtin.delete_ #[t,k] ty #[.map (some b),enc x]).run P w= .ok (.tuple #[]) w'∧MapV w' P k lit ok b n (delV f x)∧w.grownBy w' (some b):=by
 obtain⟨D,h1,h2⟩:=h;obtain⟨w',hr,h3,h4⟩:=h1.drop hK.law ht (hK.key x hx) ty;refine⟨w',hr,⟨_,h3,fun y hy z=>?_⟩,h4.grown⟩;unfold lkV delV;by_cases hyx:y=x
 ·subst hyx;rw[if_pos rfl];exact Maps.atKey_del_same z
 ·rw[if_neg hyx,Maps.atKey_del_other (fun h=>hyx (hK.inj y x hy hx h)),h2 y hy z];rfl
end
section
variable {ops:Array Oper} {rest:List Oper} {o:Oper} {a:Act} {Q:Exit→Act→World→Prop}
theorem wpList_lookV_ok (hg:o.guard=none)(m x:Operand)(t:TypeId)(hop:o.op=Op.lookup t m x true)(e:TypeId)(hK:KeyV P k enc lit ok)(ht:P.underlying t=some (.map k e)){z:Value}(hz:(zeroValue e).run P w= .ok z w)
  (b n:Nat) (f:α→Option Value) (hm:a.eval m= .map (some b)) (h:MapV w P k lit ok b n f) (i:α) (hx:a.eval x=enc i) (hi:ok i)
  (hC:wpList P ops Q rest (a.put o.dst (.tuple #[(f i).getD z,.bool (f i).isSome])) w):wpList P ops Q (o::rest) a w:=by
 refine wpList_plain hg fun K' hK'=>?_
 have hrun:=h.look_ok hK ht hz hi;unfold Oper.wp;simp [execOp,hop,hm,hx,hrun,Result.andThen]
 exact hK' _ _ hC
theorem wpList_dropV (hg:o.guard=none)(m x:Operand)(t:TypeId)(hop:o.op=Op.call {callee:=Callee.builtin Builtin.delete,args:= #[m,x],argTypes:= #[t,k]})(e:TypeId)(hK:KeyV P k enc lit ok)(ht:P.underlying t=some (.map k e))
  (b n:Nat) (f:α→Option Value) (hm:a.eval m= .map (some b)) (h:MapV w P k lit ok b n f) (i:α) (hx:a.eval x=enc i) (hi:ok i)
  (hC:∀w',MapV w' P k lit ok b n (delV f i)→w.grownBy w' (some b)→wpList P ops Q rest (a.put o.dst (.tuple #[])) w'):wpList P ops Q (o::rest) a w:=by
 refine wpList_plain hg fun K' hK'=>?_
 obtain⟨w',hrun,r1,r2⟩:=h.drop hK ht hi o.type;unfold Oper.wp;simp [execOp,hop,resolve,invoke,builtin,hm,hx,hrun,Result.andThen]
 exact hK' _ _ (hC w' r1 r2)
end
end
end Sw
namespace Sw
open Go Go.Proofs.YtnpehjgnplaabaaGreatDoor
def fN (l:List NP) (q:ByteArray):Option NP:=l.find? fun n=>decide (n.path=q)
def lkN (f:NP→Nd) (l:List NP):ByteArray→Option Value:=fun q=>(fN l q).map fun n=> .agg (f n).c
def lkC (l:List NP):ByteArray→Option Value:=fun q=>(fN l q).bind fun n=>if n.cls=0 then none else some (.int .i64 n.cls)
theorem fN_none {l:List NP}{q:ByteArray}(h:¬q∈l.map NP.path):fN l q=none:=by
 unfold fN;exact List.find?_eq_none.2 (fun n hn=>by simp only[decide_eq_true_eq];exact fun e=>h (List.mem_map.2 ⟨n,hn,e⟩))
theorem fN_some {l:List NP}{q:ByteArray}(h:q∈l.map NP.path):∃n∈l,fN l q=some n∧n.path=q:=by
 cases hf:fN l q with
 | none=>
  obtain⟨n,hn,e⟩:=List.mem_map.1 h;have:=List.find?_eq_none.1 hf n hn;simp [e] at this
 | some n=>exact⟨n,List.mem_of_find?_eq_some hf,rfl,by have:=List.find?_some hf;simpa using this⟩
theorem fN_path {l:List NP}{q:ByteArray}{n:NP}(h:fN l q=some n):n∈l∧n.path=q:=⟨List.mem_of_find?_eq_some h,by have:=List.find?_some h;simpa using this⟩
theorem fN_append {l:List NP}{n:NP}(h:¬n.path∈l.map NP.path)(q:ByteArray):fN (l++[n]) q=if q=n.path then some n else fN l q:=by
 by_cases e:q=n.path
 ·subst e;rw[if_pos rfl];unfold fN;rw[List.find?_append,show l.find? (fun m=>decide (m.path=n.path))=none from fN_none h];simp
 ·rw[if_neg e];unfold fN;rw[List.find?_append];have:[n].find? (fun m=>decide (m.path=q))=none:=by simp [Ne.symm e]
  rw[this,Option.or_none]
theorem fN_map (g:NP→NP)(hg:∀n,(g n).path=n.path)(l:List NP)(q:ByteArray):fN (l.map g) q=(fN l q).map g:=by
 unfold fN;rw[List.find?_map];have e:((fun n:NP=>decide (n.path=q))∘g)=fun n:NP=>decide (n.path=q):=by funext n;simp [hg]
 rw[e]
theorem lkN_append {f:NP→Nd}{l:List NP}{n:NP}(h:¬n.path∈l.map NP.path):lkN f (l++[n])=updV (lkN f l) n.path (.agg (f n).c):=by
 funext q
 unfold lkN updV;rw[fN_append h];by_cases e:q=n.path
 ·rw[if_pos e,if_pos e];rfl
 ·rw[if_neg e,if_neg e]
theorem lkC_append {l:List NP}{n:NP}(h:¬n.path∈l.map NP.path):lkC (l++[n])=if n.cls=0 then lkC l else updV (lkC l) n.path (.int .i64 n.cls):=by
 funext q
 unfold lkC;rw[fN_append h];by_cases e:q=n.path
 ·subst e;rw[if_pos rfl];split
  ·rename_i h0
   simp [h0,fN_none h]
  ·rename_i h0
   simp [h0,updV]
 ·rw[if_neg e];split
  ·rfl
  ·simp [updV,e]
def setN (q:ByteArray) (m:NP) (l:List NP):List NP:=l.map fun n=>if n.path=q then m else n
theorem setN_get {q:ByteArray}{m:NP}(hm:m.path=q)(l:List NP)(hq:q∈l.map NP.path)(r:ByteArray):fN (setN q m l) r=if r=q then some m else fN l r:=by
 unfold setN;rw[fN_map _ (fun n=>by split<;>simp_all)];by_cases e:r=q
 ·subst e;obtain⟨n,_,hn,hp⟩:=fN_some hq;rw[hn,if_pos rfl];simp [hp]
 ·rw[if_neg e];cases hf:fN l r with
  | none=>rfl
  | some n=>
   have:=(fN_path hf).2;simp [this,e]
theorem lkN_set {f:NP→Nd}{q:ByteArray}{m:NP}(hm:m.path=q)(l:List NP)(hq:q∈l.map NP.path):lkN f (setN q m l)=updV (lkN f l) q (.agg (f m).c):=by
 funext r
 unfold lkN updV;rw[setN_get hm l hq];by_cases e:r=q
 ·rw[if_pos e,if_pos e];rfl
 ·rw[if_neg e,if_neg e]
theorem lkC_set {q:ByteArray}{m:NP}(hm:m.path=q)(h0:m.cls=0)(l:List NP)(hq:q∈l.map NP.path):lkC (setN q m l)=delV (lkC l) q:=by
 funext r
 unfold lkC delV;rw[setN_get hm l hq];by_cases e:r=q
 ·rw[if_pos e,if_pos e];simp [h0]
 ·rw[if_neg e,if_neg e]
def clsN (q:ByteArray) (c:Int) (l:List NP):List NP:=l.map fun n=>if n.path=q then {n with cls:=c} else n
theorem clsN_get {q:ByteArray}{c:Int}(l:List NP)(r:ByteArray):fN (clsN q c l) r=if r=q then(fN l r).map (fun n=>{n with cls:=c}) else fN l r:=by
 unfold clsN;rw[fN_map _ (fun n=>by split<;>rfl)];cases hf:fN l r with
 | none=>simp
 | some n=>
  have:=(fN_path hf).2;by_cases e:r=q
  ·simp [this,e]
  ·simp [this,e]
theorem lkN_cls {f:NP→Nd}(hf:∀(n:NP) (c:Int),f {n with cls:=c}=f n){q:ByteArray}{c:Int}(l:List NP):lkN f (clsN q c l)=lkN f l:=by
 funext r
 unfold lkN;rw[clsN_get];split
 ·cases fN l r with
  | none=>rfl
  | some n=>simp [hf]
 ·rfl
theorem lkC_cls {q:ByteArray}{c:Int}(hc:¬c=0)(l:List NP)(hq:q∈l.map NP.path):lkC (clsN q c l)=updV (lkC l) q (.int .i64 c):=by
 funext r
 unfold lkC updV;rw[clsN_get];by_cases e:r=q
 ·subst e;obtain⟨n,_,hn,_⟩:=fN_some hq;rw[if_pos rfl,if_pos rfl,hn];simp [hc]
 ·rw[if_neg e,if_neg e]
def midN (xs ys:List NE) (side:Int) (l:List NP) (Q:List ByteArray):List NP:=l.map fun n=>if inS Q n.path=true then chosenN xs ys side n.path 0 else n
theorem midN_nil (xs ys:List NE)(side:Int)(l:List NP):midN xs ys side l []=l:=by
 unfold midN;exact(List.map_congr_left (fun n _=>by rw[if_neg (by rw[inS_iff];simp)];rfl)).trans (List.map_id l)
theorem midN_path (xs ys:List NE)(side:Int)(l:List NP)(Q:List ByteArray):(midN xs ys side l Q).map NP.path=l.map NP.path:=by
 unfold midN;rw[List.map_map];refine List.map_congr_left fun n _=>?_
 simp only[Function.comp];split<;>rfl
theorem midN_snoc (xs ys:List NE)(side:Int)(l:List NP)(Q:List ByteArray)(q:ByteArray):midN xs ys side l (Q++[q])=setN q (chosenN xs ys side q 0) (midN xs ys side l Q):=by
 unfold midN setN;rw[List.map_map];refine List.map_congr_left fun n _=>?_
 simp only[Function.comp];have hp:(if inS Q n.path=true then chosenN xs ys side n.path 0 else n).path=n.path:=by split<;>rfl
 rw[hp];by_cases e:n.path=q
 ·rw[if_pos e,if_pos (by rw[inS_iff,e];simp),e]
 ·rw[if_neg e];have:inS (Q++[q]) n.path=inS Q n.path:=by
   cases h:inS Q n.path with
   | true=>rw[inS_iff] at h⊢;exact zU _ h
   | false=>
    cases h2:inS (Q++[q]) n.path with
    | false=>rfl
    | true=>
     rw[inS_iff] at h2;rcases List.mem_append.1 h2 with h3 | h3
     ·rw[←inS_iff,h] at h3;cases h3
     ·simp at h3;exact absurd h3 e
  rw[this]
def insN (l:List NP) (p:ByteArray):List ByteArray:=(l.map NP.path).filter (inQ p)
theorem turn_mid (policy:Int)(xs ys:List NE)(l:List NP)(p:ByteArray):turnN policy xs ys l p=clsN p 4 (midN xs ys (sideR policy xs ys p) l (insN l p)):=by
 unfold turnN clsN midN;rw[List.map_map];refine List.map_congr_left fun n hn=>?_
 simp only[Function.comp];have hi:inS (insN l p) n.path=inQ p n.path:=by
  cases h:inQ p n.path with
  | true=>rw[inS_iff];exact List.mem_filter.2 ⟨List.mem_map.2 ⟨n,hn,rfl⟩,h⟩
  | false=>
   cases h2:inS (insN l p) n.path with
   | false=>rfl
   | true=>
    rw[inS_iff] at h2;have:=(List.mem_filter.1 h2).2;rw[h] at this;cases this
 rw[hi];by_cases h:inQ p n.path=true
 ·rw[if_pos h,if_pos h];by_cases e:n.path=p
  ·rw[if_pos e,if_pos (by exact e)];rfl
  ·rw[if_neg e,if_neg (by exact e)]
 ·rw[if_neg h,if_neg h];have:¬n.path=p:=fun e=>h (by rw[e];exact inQ_self p)
  rw[if_neg this]
end Sw
namespace Go.Proofs.YtnpehjgnplaabaaGreatDoor
open Go Go.RowKit
open Sw
structure RgIn (B0:Nat) (w:World) (gs bt bt2 m0 m1 mc N:Nat) (policy:Int) (pv gv:Value) (ps gr:List ByteArray) (f0 f1 fc:ByteArray→Option Value):Prop where
 box:Blk w gs 76 #[.pointer (some ⟨bt,0,none⟩),.pointer (some ⟨bt2,0,none⟩),.int .i64 policy,pv,.map (some m0),.map (some m1),.map (some mc),gv]
 mA:MapV w Tryz.prog 9 litT okT m0 N f0
 mB:MapV w Tryz.prog 9 litT okT m1 N f1
 mC:MapV w Tryz.prog 9 litT okT mc N fc
 rp:w.ownsRow B0 9 1 pv ps.length (ps.map Value.string)
 rg:w.ownsRow B0 9 1 gv gr.length (gr.map Value.string)
 n01:m0≠m1
 n0c:m0≠mc
 n1c:m1≠mc
 apart:∀g,pv.ownBlock=some g→gv.ownBlock=some g→False
 bs:B0≤gs
 b0:B0≤m0
 b1:B0≤m1
 bc:B0≤mc
def RgF (gs m0 m1 mc:Nat) (pv gv:Value) (i:Nat):Prop:=i=gs∨i=m0∨i=m1∨i=mc∨pv.ownBlock=some i∨gv.ownBlock=some i
theorem map_noblk {α:Type}{P:Program}{k:TypeId}{lit:α→Lit}{ok:α→Prop}{w:World}{b n:Nat}{f:α→Option Value}(h:MapV w P k lit ok b n f){e:TypeId}{cur:Array Value}:¬Blk w b e cur:=by
 intro hb;obtain⟨D,⟨es,clock,h0,_⟩,_⟩:=h;unfold Blk at hb;rw[hb] at h0;cases h0
section
variable {B0:Nat} {w w':World} {gs bt bt2 m0 m1 mc N:Nat} {policy:Int} {pv gv:Value} {ps gr:List ByteArray} {f0 f1 fc:ByteArray→Option Value}
theorem RgIn.lt (h:RgIn B0 w gs bt bt2 m0 m1 mc N policy pv gv ps gr f0 f1 fc):∀i,RgF gs m0 m1 mc pv gv i→i<w.heap.size:=fun i hi=>by
 rcases hi with rfl | rfl | rfl | rfl | hi | hi
 ·exact h.box.lt
 ·exact h.mA.lt
 ·exact h.mB.lt
 ·exact h.mC.lt
 ·exact(h.rp.lt i hi).2
 ·exact(h.rg.lt i hi).2
theorem RgIn.neA (h:RgIn B0 w gs bt bt2 m0 m1 mc N policy pv gv ps gr f0 f1 fc):gs≠m0:=fun e=>map_noblk h.mA (e▸h.box)
theorem RgIn.neB (h:RgIn B0 w gs bt bt2 m0 m1 mc N policy pv gv ps gr f0 f1 fc):gs≠m1:=fun e=>map_noblk h.mB (e▸h.box)
theorem RgIn.neC (h:RgIn B0 w gs bt bt2 m0 m1 mc N policy pv gv ps gr f0 f1 fc):gs≠mc:=fun e=>map_noblk h.mC (e▸h.box)
theorem RgIn.neP (h:RgIn B0 w gs bt bt2 m0 m1 mc N policy pv gv ps gr f0 f1 fc){g:Nat}(hg:pv.ownBlock=some g):g≠gs∧g≠m0∧g≠m1∧g≠mc:=by
 obtain⟨cur,hc⟩:=own_blkB h.rp hg;exact⟨fun e=>Blk.other hc h.box (by decide) (by rw[e]),fun e=>map_noblk h.mA (e▸hc),fun e=>map_noblk h.mB (e▸hc),fun e=>map_noblk h.mC (e▸hc)⟩
theorem RgIn.neG (h:RgIn B0 w gs bt bt2 m0 m1 mc N policy pv gv ps gr f0 f1 fc){g:Nat}(hg:gv.ownBlock=some g):g≠gs∧g≠m0∧g≠m1∧g≠mc:=by
 obtain⟨cur,hc⟩:=own_blkB h.rg hg;exact⟨fun e=>Blk.other hc h.box (by decide) (by rw[e]),fun e=>map_noblk h.mA (e▸hc),fun e=>map_noblk h.mB (e▸hc),fun e=>map_noblk h.mC (e▸hc)⟩
theorem RgIn.same (h:RgIn B0 w gs bt bt2 m0 m1 mc N policy pv gv ps gr f0 f1 fc)(hb:∀i,RgF gs m0 m1 mc pv gv i→w'.heap[i]? =w.heap[i]?):RgIn B0 w' gs bt bt2 m0 m1 mc N policy pv gv ps gr f0 f1 fc:=
 ⟨(hb _ (.inl rfl)).trans h.box,h.mA.same (hb _ (.inr (.inl rfl))),h.mB.same (hb _ (.inr (.inr (.inl rfl)))),h.mC.same (hb _ (.inr (.inr (.inr (.inl rfl))))),own_sameB h.rp (fun g hg=>hb g (.inr (.inr (.inr (.inr (.inl hg)))))),own_sameB h.rg (fun g hg=>hb g (.inr (.inr (.inr (.inr (.inr hg)))))),h.n01,h.n0c,h.n1c,h.apart,h.bs,h.b0,h.b1,h.bc⟩
theorem RgIn.below (h:RgIn B0 w gs bt bt2 m0 m1 mc N policy pv gv ps gr f0 f1 fc)(hb:Below w.heap.size w w'):RgIn B0 w' gs bt bt2 m0 m1 mc N policy pv gv ps gr f0 f1 fc:=h.same fun i hi=>hb.block i (h.lt i hi)
theorem RgIn.maps (h:RgIn B0 w gs bt bt2 m0 m1 mc N policy pv gv ps gr f0 f1 fc)(k:TurnB (fun i=>i=m0∨i=m1) w w'){M:Nat}(hM:N≤M){g0 g1:ByteArray→Option Value}(hA:MapV w' Tryz.prog 9 litT okT m0 M g0)(hB:MapV w' Tryz.prog 9 litT okT m1 M g1):RgIn B0 w' gs bt bt2 m0 m1 mc M policy pv gv ps gr g0 g1 fc:=by
 have hb:∀i,i<w.heap.size→i≠m0→i≠m1→w'.heap[i]? =w.heap[i]? :=fun i hi h0 h1=>k.block i hi (fun hf=>hf.elim h0 h1)
 exact⟨(hb _ h.box.lt h.neA h.neB).trans h.box,hA,hB,(h.mC.same (hb _ h.mC.lt h.n0c.symm h.n1c.symm)).mono hM,own_sameB h.rp (fun g hg=>hb g (h.rp.lt g hg).2 (h.neP hg).2.1 (h.neP hg).2.2.1),own_sameB h.rg (fun g hg=>hb g (h.rg.lt g hg).2 (h.neG hg).2.1 (h.neG hg).2.2.1),h.n01,h.n0c,h.n1c,h.apart,h.bs,h.b0,h.b1,h.bc⟩
theorem RgIn.clash (h:RgIn B0 w gs bt bt2 m0 m1 mc N policy pv gv ps gr f0 f1 fc)(k:w.grownBy w' (some mc)){M:Nat}(hM:N≤M){gc:ByteArray→Option Value}(hC:MapV w' Tryz.prog 9 litT okT mc M gc):RgIn B0 w' gs bt bt2 m0 m1 mc M policy pv gv ps gr f0 f1 gc:=by
 have hb:∀i,i<w.heap.size→i≠mc→w'.heap[i]? =w.heap[i]? :=fun i hi h0=>k.block i hi (by simpa using h0)
 exact⟨(hb _ h.box.lt h.neC).trans h.box,(h.mA.same (hb _ h.mA.lt h.n0c)).mono hM,(h.mB.same (hb _ h.mB.lt h.n1c)).mono hM,hC,own_sameB h.rp (fun g hg=>hb g (h.rp.lt g hg).2 (h.neP hg).2.2.2),own_sameB h.rg (fun g hg=>hb g (h.rg.lt g hg).2 (h.neG hg).2.2.2),h.n01,h.n0c,h.n1c,h.apart,h.bs,h.b0,h.b1,h.bc⟩
end
theorem TreeAt.turnB {F:Nat→Prop}{W W':World}{bt bm:Nat}{X:List NE}(h:TreeAt W bt bm X)(hk:TurnB F W W')(hF:∀i t cs,F i→¬Blk W i t cs):TreeAt W' bt bm X:=by
 refine⟨h.box.turnB hk (fun hf=>hF _ _ _ hf h.box),?_⟩;obtain⟨v,hb,ho⟩:=h.map.row;exact⟨⟨v,hb.turnB hk (fun hf=>hF _ _ _ hf hb),own_sameB ho (fun g hg=>by
  obtain⟨cur,hc⟩:=own_blkB ho hg;exact hk.block g hc.lt (fun hf=>hF _ _ _ hf hc))⟩,h.map.up,h.map.ok⟩
def mapsF (m0 m1:Nat) (i:Nat):Prop:=i=m0∨i=m1
theorem regTake_any (w:World)(gs bt bm bt2 bm2 m0 m1 mc N:Nat)(policy:Int)(pv gv:Value)(f0 f1:ByteArray→Option Value)(xs ys:List NE)(q:ByteArray)(side:Int)
  (hbox:Blk w gs 76 #[.pointer (some ⟨bt,0,none⟩),.pointer (some ⟨bt2,0,none⟩),.int .i64 policy,pv,.map (some m0),.map (some m1),.map (some mc),gv])
  (hA:MapV w Tryz.prog 9 litT okT m0 N f0) (hB:MapV w Tryz.prog 9 litT okT m1 N f1) (hne:m0≠m1) (hN:N+1<maxLen) (hT:TreeAt w bt bm xs) (hT2:TreeAt w bt2 bm2 ys) (hxl:xs.length≤1000000) (hyl:ys.length≤1000000) (hq:q.size≤90000):
  Calls Tryz.prog 57 #[.pointer (some ⟨gs,0,none⟩),.string q,.int .i64 side] w fun e w'=>e= .returned (.tuple #[])∧MapV w' Tryz.prog 9 litT okT m0 (N+1) (updV f0 q (.agg (chosenN xs ys side q 0).left.c))∧MapV w' Tryz.prog 9 litT okT m1 (N+1) (updV f1 q (.agg (chosenN xs ys side q 0).right.c))∧TurnB (mapsF m0 m1) w w':=by
 have hqk:okT q:=zT hq (by unfold maxLen;omega);have hFF:∀i t cs,mapsF m0 m1 i→¬Blk w i t cs:=fun i t cs hi=>by
  rcases hi with rfl | rfl
  ·exact map_noblk hA
  ·exact map_noblk hB
 have hg0:gs≠m0:=fun e=>map_noblk hA (e▸hbox)
 have hg1:gs≠m1:=fun e=>map_noblk hB (e▸hbox)
 obtain⟨nx,hnx⟩:∃n,getT xs q=n:=⟨_,rfl⟩;obtain⟨ny,hny⟩:∃n,getT ys q=n:=⟨_,rfl⟩;obtain⟨vA,hvA⟩:∃v,(if side=2 then ny else nx)=v:=⟨_,rfl⟩;obtain⟨vB,hvB⟩:∃v,(if side=1 then nx else ny)=v:=⟨_,rfl⟩;have hch:chosenN xs ys side q 0=⟨q,vA,vB,0⟩:=by unfold chosenN;rw[hnx,hny,hvA,hvB]
 rw[hch];simp only;have HG1:=zH (fun W (h:TreeAt W bt bm xs)=>treeGet_any W bt bm xs q h hxl hq);have HG2:=zH (fun W (h:TreeAt W bt2 bm2 ys)=>treeGet_any W bt2 bm2 ys q h hyl hq);rw[hnx] at HG1;rw[hny] at HG2;have H0:=zH (zA hbox (zA hA (zA hB (zA hT hT2))));have HF:=zH (zA hFF (zA hg0 (zA hg1 (zA hne hqk))));obtain⟨xa,xb,xc,xd⟩:=nx;obtain⟨ya,yb,yc,yd⟩:=ny;have HV:=zH (zA hvA hvB);clear hbox hA hB hT hT2 hFF hg0 hg1 hch hnx hny hvA hvB;simp only[Nd.c] at HG1 HG2;go_enter Tryz.func57,Tryz.ntmps57
 go_wp2_with fail
 go_loopw [8] (fun iv wr=>∃i:Nat,i≤2∧iv= .int .i64 i∧TurnB (mapsF m0 m1) w wr∧MapV wr Tryz.prog 9 litT okT m0 (N+1) (if 1≤i then updV f0 q (.agg vA.c) else f0)∧MapV wr Tryz.prog 9 litT okT m1 (N+1) (if 2≤i then updV f1 q (.agg vB.c) else f1)∧(i=0→MapV wr Tryz.prog 9 litT okT m0 N f0)∧(i≤1→MapV wr Tryz.prog 9 litT okT m1 N f1)) (fun iv _=>2-(intOf iv).toNat)
 case atStart=>exact⟨0,by omega,rfl,TurnB.refl _ _,H0.out.2.1.mono (by omega),H0.out.2.2.1.mono (by omega),fun _=>H0.out.2.1,fun _=>H0.out.2.2.1⟩
 case round=>
  obtain⟨i,hi,rfl,htn,hma,hmb,hm0,hm1⟩:=hrel;have hbx:=H0.out.1.turnB htn (fun hf=>hf.elim HF.out.2.1 HF.out.2.2.1);have HTX:=zH (zA (H0.out.2.2.2.1.turnB htn HF.out.1) (H0.out.2.2.2.2.turnB htn HF.out.1));have hlt:=hbx.lt;have z0:=hbx.cell 0;have z1:=hbx.cell 1;have z4:=hbx.cell 4;have z5:=hbx.cell 5;simp only[qA,qB,qC] at z0 z1 z4 z5;have k0:∀m:Held (Aft wr),(HeldW m).cell? ⟨gs,0,none⟩=some (.pointer (some ⟨bt,0,none⟩)):=fun m=>(Aft.cell m hlt).trans z0
  have k1:∀m:Held (Aft wr),(HeldW m).cell? ⟨gs,1,none⟩=some (.pointer (some ⟨bt2,0,none⟩)):=fun m=>(Aft.cell m hlt).trans z1
  have k4:∀m:Held (Aft wr),(HeldW m).cell? ⟨gs,4,none⟩=some (.map (some m0)):=fun m=>(Aft.cell m hlt).trans z4
  have k5:∀m:Held (Aft wr),(HeldW m).cell? ⟨gs,5,none⟩=some (.map (some m1)):=fun m=>(Aft.cell m hlt).trans z5
  have HR:=zH (zA htn (zA hma (zA hmb (zA hm0 hm1))));clear htn hma hmb hm0 hm1 hbx hlt z0 z1 z4 z5;by_cases hi2:i=2
  ·subst hi2;have HX:=zH HR.out;go_wp2_with fail
   (go_end0);exact⟨rfl,by simpa using HX.out.2.1,by simpa using HX.out.2.2.1,HX.out.1⟩
  ·have hi1:(i:Int)<2:=by omega
   have HC0:=zH (Aft.start wr);by_cases hi0:i=0
   ·subst hi0;by_cases hs2:side=2
    ·subst hs2;(go_upto_region 9 with fail);refine wp_region_mixD (Aft wr) [(0,true),(1,true),(2,true),(3,true),(4,true),(5,true),(6,true),(7,true),(8,true),(9,true),(10,true),(11,true),(12,true),(13,true),(14,false),(15,false)] (by kernel_rfl) (by kernel_rfl) ?_;simp only[pickP,List.filterMap_cons,List.filterMap_nil,qA,qB,qC,Option.map_some];(repeat (apply mixD_first;apply Exists.intro;refine⟨fun m=>?_,HC0.out,?_⟩;·(go_big_quiet_step (fail);exact wpQuiet_nil rfl)));refine mixD_forced HC0.out ?_;(go_wp2_with fail);refine(HG2.out _ (HTX.out.2.below HC0.out)).mono ?_;rintro e w2 ⟨rfl,hb2⟩;have hC2:Aft wr w2:=Aft.keep _ _ HC0.out hb2;have HC2:=zH hC2;have HM:=zH ((HR.out.2.2.2.1 (by first | rfl | trivial)).below hC2 (HR.out.2.2.2.1 (by first | rfl | trivial)).lt);clear hb2 hC2 k0 k1 k4 k5;(go_wp2_with fail);(show mixD ..);refine mixD_forced HC2.out ?_;(go_wp2_with (at_mapUpdate;refine wpList_storeV rfl _ _ _ 73 rfl 57 (keyStr Tryz.underlying9) Tryz.underlying73 m0 N f0 rfl HM.out (by omega) q rfl HF.out.2.2.2.2 _ rfl ?_;intro w4 hm4 hg4));have HB:=zH (zA hm4 hg4);clear hm4 hg4;(show mixD ..);refine mixD_nil ?_;(go_wp2_with fail);go_roundw
     case rel=>
      have htb:TurnB (mapsF m0 m1) w w4:=(HR.out.1.below HC2.out).grown HB.out.2 (fun g hg=>by cases hg;exact .inl (.inl rfl));have hm1b:MapV w4 Tryz.prog 9 litT okT m1 N f1:=((HR.out.2.2.2.2 (by omega)).below HC2.out (HR.out.2.2.2.2 (by omega)).lt).kept HB.out.2 (by simpa using HF.out.2.2.2.1.symm);exact⟨1,by omega,by go_num,htb,by rw[if_pos (by omega),←HV.out.1];simp only[if_true,Int.reduceEq,if_false,Nd.c];exact HB.out.1,by rw[if_neg (by omega)];exact hm1b.mono (by omega),fun h=>(by omega),fun _=>hm1b⟩
     case measure=>simp [intOf]
    ·(have t2:(side==2)=false:=by simpa using hs2);by_cases hs1:side=1
     ·subst hs1;(go_upto_region 9 with fail);refine wp_region_mixD (Aft wr) [(0,true),(1,true),(2,true),(3,true),(4,true),(5,true),(6,true),(7,true),(8,true),(9,true),(10,true),(11,true),(12,true),(13,true),(14,false),(15,false)] (by kernel_rfl) (by kernel_rfl) ?_;simp only[pickP,List.filterMap_cons,List.filterMap_nil,qA,qB,qC,Option.map_some];(repeat (apply mixD_first;apply Exists.intro;refine⟨fun m=>?_,HC0.out,?_⟩;·(go_big_quiet_step (fail);exact wpQuiet_nil rfl)));refine mixD_forced HC0.out ?_;(go_wp2_with fail);refine(HG1.out _ (HTX.out.1.below HC0.out)).mono ?_;rintro e w2 ⟨rfl,hb2⟩;have hC2:Aft wr w2:=Aft.keep _ _ HC0.out hb2;have HC2:=zH hC2;have HM:=zH ((HR.out.2.2.2.1 (by first | rfl | trivial)).below hC2 (HR.out.2.2.2.1 (by first | rfl | trivial)).lt);clear hb2 hC2 k0 k1 k4 k5;(go_wp2_with fail);(show mixD ..);refine mixD_forced HC2.out ?_;(go_wp2_with (at_mapUpdate;refine wpList_storeV rfl _ _ _ 73 rfl 57 (keyStr Tryz.underlying9) Tryz.underlying73 m0 N f0 rfl HM.out (by omega) q rfl HF.out.2.2.2.2 _ rfl ?_;intro w4 hm4 hg4));have HB:=zH (zA hm4 hg4);clear hm4 hg4;(show mixD ..);refine mixD_nil ?_;(go_wp2_with fail);go_roundw
      case rel=>
       have htb:TurnB (mapsF m0 m1) w w4:=(HR.out.1.below HC2.out).grown HB.out.2 (fun g hg=>by cases hg;exact .inl (.inl rfl));have hm1b:MapV w4 Tryz.prog 9 litT okT m1 N f1:=((HR.out.2.2.2.2 (by omega)).below HC2.out (HR.out.2.2.2.2 (by omega)).lt).kept HB.out.2 (by simpa using HF.out.2.2.2.1.symm);exact⟨1,by omega,by go_num,htb,by rw[if_pos (by omega),←HV.out.1];simp only[Int.reduceEq,if_false,if_true,Nd.c];exact HB.out.1,by rw[if_neg (by omega)];exact hm1b.mono (by omega),fun h=>(by omega),fun _=>hm1b⟩
      case measure=>simp [intOf]
     ·(have t1:(side==1)=false:=by simpa using hs1);have HS:=zH hs2;clear hs1 hs2;(go_upto_region 9 with fail);refine wp_region_mixD (Aft wr) [(0,true),(1,true),(2,true),(3,true),(4,true),(5,true),(6,true),(7,true),(8,true),(9,true),(10,true),(11,true),(12,true),(13,true),(14,false),(15,false)] (by kernel_rfl) (by kernel_rfl) ?_;simp only[pickP,List.filterMap_cons,List.filterMap_nil,qA,qB,qC,Option.map_some];(repeat (apply mixD_first;apply Exists.intro;refine⟨fun m=>?_,HC0.out,?_⟩;·(go_big_quiet_step (fail);exact wpQuiet_nil rfl)));refine mixD_forced HC0.out ?_;(go_wp2_with fail);refine(HG1.out _ (HTX.out.1.below HC0.out)).mono ?_;rintro e w2 ⟨rfl,hb2⟩;have hC2:Aft wr w2:=Aft.keep _ _ HC0.out hb2;have HC2:=zH hC2;have HM:=zH ((HR.out.2.2.2.1 (by first | rfl | trivial)).below hC2 (HR.out.2.2.2.1 (by first | rfl | trivial)).lt);clear hb2 hC2 k0 k1 k4 k5;(go_wp2_with fail);(show mixD ..);refine mixD_forced HC2.out ?_;(go_wp2_with (at_mapUpdate;refine wpList_storeV rfl _ _ _ 73 rfl 57 (keyStr Tryz.underlying9) Tryz.underlying73 m0 N f0 rfl HM.out (by omega) q rfl HF.out.2.2.2.2 _ rfl ?_;intro w4 hm4 hg4));have HB:=zH (zA hm4 hg4);clear hm4 hg4;(show mixD ..);refine mixD_nil ?_;(go_wp2_with fail);go_roundw
      case rel=>
       have htb:TurnB (mapsF m0 m1) w w4:=(HR.out.1.below HC2.out).grown HB.out.2 (fun g hg=>by cases hg;exact .inl (.inl rfl));have hm1b:MapV w4 Tryz.prog 9 litT okT m1 N f1:=((HR.out.2.2.2.2 (by omega)).below HC2.out (HR.out.2.2.2.2 (by omega)).lt).kept HB.out.2 (by simpa using HF.out.2.2.2.1.symm);exact⟨1,by omega,by go_num,htb,by rw[if_pos (by omega),←HV.out.1];rw[if_neg HS.out];simp only[Nd.c];exact HB.out.1,by rw[if_neg (by omega)];exact hm1b.mono (by omega),fun h=>(by omega),fun _=>hm1b⟩
      case measure=>simp [intOf]
   ·(obtain rfl:i=1:=by omega);by_cases hs2:side=2
    ·subst hs2;(go_upto_region 9 with fail);refine wp_region_mixD (Aft wr) [(0,true),(1,true),(2,true),(3,true),(4,true),(5,true),(6,true),(7,true),(8,true),(9,true),(10,true),(11,true),(12,true),(13,true),(14,false),(15,false)] (by kernel_rfl) (by kernel_rfl) ?_;simp only[pickP,List.filterMap_cons,List.filterMap_nil,qA,qB,qC,Option.map_some];(repeat (apply mixD_first;apply Exists.intro;refine⟨fun m=>?_,HC0.out,?_⟩;·(go_big_quiet_step (fail);exact wpQuiet_nil rfl)));refine mixD_forced HC0.out ?_;(go_wp2_with fail);refine(HG2.out _ (HTX.out.2.below HC0.out)).mono ?_;rintro e w2 ⟨rfl,hb2⟩;have hC2:Aft wr w2:=Aft.keep _ _ HC0.out hb2;have HC2:=zH hC2;have HM:=zH ((HR.out.2.2.2.2 (by omega)).below hC2 (HR.out.2.2.2.2 (by omega)).lt);clear hb2 hC2 k0 k1 k4 k5;(go_wp2_with fail);(show mixD ..);refine mixD_forced HC2.out ?_;(go_wp2_with (at_mapUpdate;refine wpList_storeV rfl _ _ _ 73 rfl 57 (keyStr Tryz.underlying9) Tryz.underlying73 m1 N f1 rfl HM.out (by omega) q rfl HF.out.2.2.2.2 _ rfl ?_;intro w4 hm4 hg4));have HB:=zH (zA hm4 hg4);clear hm4 hg4;(show mixD ..);refine mixD_nil ?_;(go_wp2_with fail);go_roundw
     case rel=>
      have htb:TurnB (mapsF m0 m1) w w4:=(HR.out.1.below HC2.out).grown HB.out.2 (fun g hg=>by cases hg;exact .inl (.inr rfl));have hm0a:=HR.out.2.1;rw[if_pos (by omega)] at hm0a;exact⟨2,by omega,by go_num,htb,by rw[if_pos (by omega)];exact(hm0a.below HC2.out hm0a.lt).kept HB.out.2 (by simpa using HF.out.2.2.2.1),by rw[if_pos (by omega),←HV.out.2];simp only[if_true,Int.reduceEq,if_false,Nd.c];exact HB.out.1,fun h=>(by omega),fun h=>(by omega)⟩
     case measure=>simp [intOf]
    ·(have t2:(side==2)=false:=by simpa using hs2);by_cases hs1:side=1
     ·subst hs1;(go_upto_region 9 with fail);refine wp_region_mixD (Aft wr) [(0,true),(1,true),(2,true),(3,true),(4,true),(5,true),(6,true),(7,true),(8,true),(9,true),(10,true),(11,true),(12,true),(13,true),(14,false),(15,false)] (by kernel_rfl) (by kernel_rfl) ?_;simp only[pickP,List.filterMap_cons,List.filterMap_nil,qA,qB,qC,Option.map_some];(repeat (apply mixD_first;apply Exists.intro;refine⟨fun m=>?_,HC0.out,?_⟩;·(go_big_quiet_step (fail);exact wpQuiet_nil rfl)));refine mixD_forced HC0.out ?_;(go_wp2_with fail);refine(HG1.out _ (HTX.out.1.below HC0.out)).mono ?_;rintro e w2 ⟨rfl,hb2⟩;have hC2:Aft wr w2:=Aft.keep _ _ HC0.out hb2;have HC2:=zH hC2;have HM:=zH ((HR.out.2.2.2.2 (by omega)).below hC2 (HR.out.2.2.2.2 (by omega)).lt);clear hb2 hC2 k0 k1 k4 k5;(go_wp2_with fail);(show mixD ..);refine mixD_forced HC2.out ?_;(go_wp2_with (at_mapUpdate;refine wpList_storeV rfl _ _ _ 73 rfl 57 (keyStr Tryz.underlying9) Tryz.underlying73 m1 N f1 rfl HM.out (by omega) q rfl HF.out.2.2.2.2 _ rfl ?_;intro w4 hm4 hg4));have HB:=zH (zA hm4 hg4);clear hm4 hg4;(show mixD ..);refine mixD_nil ?_;(go_wp2_with fail);go_roundw
      case rel=>
       have htb:TurnB (mapsF m0 m1) w w4:=(HR.out.1.below HC2.out).grown HB.out.2 (fun g hg=>by cases hg;exact .inl (.inr rfl));have hm0a:=HR.out.2.1;rw[if_pos (by omega)] at hm0a;exact⟨2,by omega,by go_num,htb,by rw[if_pos (by omega)];exact(hm0a.below HC2.out hm0a.lt).kept HB.out.2 (by simpa using HF.out.2.2.2.1),by rw[if_pos (by omega),←HV.out.2];simp only[Int.reduceEq,if_false,if_true,Nd.c];exact HB.out.1,fun h=>(by omega),fun h=>(by omega)⟩
      case measure=>simp [intOf]
     ·(have t1:(side==1)=false:=by simpa using hs1);have HS:=zH hs1;clear hs1 hs2;(go_upto_region 9 with fail);refine wp_region_mixD (Aft wr) [(0,true),(1,true),(2,true),(3,true),(4,true),(5,true),(6,true),(7,true),(8,true),(9,true),(10,true),(11,true),(12,true),(13,true),(14,false),(15,false)] (by kernel_rfl) (by kernel_rfl) ?_;simp only[pickP,List.filterMap_cons,List.filterMap_nil,qA,qB,qC,Option.map_some];(repeat (apply mixD_first;apply Exists.intro;refine⟨fun m=>?_,HC0.out,?_⟩;·(go_big_quiet_step (fail);exact wpQuiet_nil rfl)));refine mixD_forced HC0.out ?_;(go_wp2_with fail);refine(HG2.out _ (HTX.out.2.below HC0.out)).mono ?_;rintro e w2 ⟨rfl,hb2⟩;have hC2:Aft wr w2:=Aft.keep _ _ HC0.out hb2;have HC2:=zH hC2;have HM:=zH ((HR.out.2.2.2.2 (by omega)).below hC2 (HR.out.2.2.2.2 (by omega)).lt);clear hb2 hC2 k0 k1 k4 k5;(go_wp2_with fail);(show mixD ..);refine mixD_forced HC2.out ?_;(go_wp2_with (at_mapUpdate;refine wpList_storeV rfl _ _ _ 73 rfl 57 (keyStr Tryz.underlying9) Tryz.underlying73 m1 N f1 rfl HM.out (by omega) q rfl HF.out.2.2.2.2 _ rfl ?_;intro w4 hm4 hg4));have HB:=zH (zA hm4 hg4);clear hm4 hg4;(show mixD ..);refine mixD_nil ?_;(go_wp2_with fail);go_roundw
      case rel=>
       have htb:TurnB (mapsF m0 m1) w w4:=(HR.out.1.below HC2.out).grown HB.out.2 (fun g hg=>by cases hg;exact .inl (.inr rfl));have hm0a:=HR.out.2.1;rw[if_pos (by omega)] at hm0a;exact⟨2,by omega,by go_num,htb,by rw[if_pos (by omega)];exact(hm0a.below HC2.out hm0a.lt).kept HB.out.2 (by simpa using HF.out.2.2.2.1),by rw[if_pos (by omega),←HV.out.2];rw[if_neg HS.out];simp only[Nd.c];exact HB.out.1,fun h=>(by omega),fun h=>(by omega)⟩
      case measure=>simp [intOf]
theorem infoEST:(Tryz.prog.info? 9).map (fun i=>(i.zero,i.size,i.bytes))=some (some (.string ⟨#[]⟩),1,16):=by kernel_rfl
theorem slCloneST_any {α:Type}(E:α→List Value)(hE:∀x,(E x).length=1)(hE1:∀x,∀u∈E x,u.oneCell'=true)(w:World)(v:Value)(l:List α)(h:SlV w 1 E v l)(hl:l.length≤1000000):
  Calls Tryz.prog 95 #[v] w fun e w'=>∃v',e= .returned v'∧w'.ownsRow w.heap.size 9 1 v' l.length (l.flatMap E)∧Below w.heap.size w w':=by
 obtain⟨A,c,rfl,hc1,hc2,hsl⟩:=h;cases A with
 | none=>
  have h0:l=[]:=by
   cases l with
   | nil=>rfl
   | cons a l=>obtain⟨b,off,h,_⟩:=hsl (by simp);cases h
  subst h0;have hno:=World.ownsRow_nil w w.heap.size 9 1;have HN:=zH hno;clear hno hsl;have hnl:∀W n c,(binOp .eql 34 (.slice none n c) (.slice none 0 0)).run Tryz.prog W= .ok (.bool true) W:=fun W n c=>Lib.run_eql_slice_nil W 34 9 none n c 0 0 Tryz.underlying34
  go_enter Tryz.func95,Tryz.ntmps95
  go_wp2_with fail
  go_ret;exact⟨_,rfl,HN.out,zR _ _⟩
 | some a=>
  obtain⟨i0,hi,hz0,hz1,hz2⟩:=info_parts infoEST;have hlen:(l.flatMap E).length=l.length*1:=flat_len hE l;have hone:∀u∈l.flatMap E,u.oneCell'=true:=fun u hu=>by
   rw[List.mem_flatMap] at hu;obtain⟨x,_,hx⟩:=hu;exact hE1 x u hx
  have hnews:∀j u,(l.flatMap E)[j]? =some u→w.cell? (a.add j)=some u:=fun j u hj=>by
   have hjl:=(List.getElem?_eq_some_iff.1 hj).1;rw[hlen] at hjl;obtain⟨b,off,hA,_,hcs⟩:=hsl (by omega);rw[Option.some.inj hA,add_mk];(have hq:j/1<l.length:=by omega);have hr:j % 1<1:=Nat.mod_lt _ (by omega);(have hd:j/1*1+j % 1=j:=by omega);have h1:=flat_get hE l (j/1) hq (j % 1) hr;rw[hd,hj] at h1;have h2:=hcs (j/1) hq (j % 1) hr;rw[Nat.add_assoc,hd] at h2;rw[h2,←h1]
  have hnews1:∀(o:Obj) j u,(l.flatMap E)[j]? =some u→(w.alloc o).cell? (a.add j)=some u:=fun o j u hj=>by
   have h1:=hnews j u hj;have hlt:=World.block_lt_of_cell? w _ h1;rw[←h1];exact((zR w.heap.size w).alloc (zN _) o).cell hlt
  have hown:=World.ownsRow_made (e:=9) (size:=1) (base:=w.heap.size) w #[] 0 (zN _) (by decide) (by simp);have hbe:Below w.heap.size w (w.alloc (.cells #[] 9)):=(zR _ _).alloc (zN _) _;have HH:=zH (zA hown hbe);clear hown hbe;have HL:=zH hlen;clear hlen;have HO:=zH hone;clear hone;have HW:=zH hnews1;clear hnews1 hnews;have HI:=zH (zA hi (zA hz0 (zA hz1 hz2)));clear hi hz0 hz1 hz2;generalize l.flatMap E=xs at*;generalize l.length=n at*;have hnl:∀W n c,(binOp .eql 34 (.slice (some a) n c) (.slice none 0 0)).run Tryz.prog W= .ok (.bool false) W:=fun W n c=>Lib.run_eql_slice_nil W 34 9 (some a) n c 0 0 Tryz.underlying34
  go_enter Tryz.func95,Tryz.ntmps95
  go_wp2_with (at_builtin;refine wpList_append_own _ rfl _ _ 34 rfl w.heap.size 9 i0 (.string ⟨#[]⟩) 1 16 Tryz.underlying34 HI.out.1 HI.out.2.1 HI.out.2.2.1 HI.out.2.2.2 rfl (by decide) _ _ _ rfl HH.out.1 a n c xs rfl HL.out (HW.out _) HO.out (by unfold maxLen;omega) (by omega) (by simp) ?_;intro v' w1 hown1 hgrow1 hnil1)
  have HP:=zH (zA hown1 hgrow1);clear hown1 hgrow1 hnil1;go_wp2_with fail
  go_ret;refine⟨_,rfl,?_,HH.out.2.grown HP.out.2 (by simp) (fun k hk=>?_)⟩
  ·have:=HP.out.1
   simpa using this
  ·have:w.heap.size=k:=Option.some.inj hk;omega
end Go.Proofs.YtnpehjgnplaabaaGreatDoor
namespace Go.Proofs.YtnpehjgnplaabaaGreatDoor
open Go.RowKit
open Sw
def sE (t:ByteArray):List Value:=[.string t]
theorem beqT (s t:ByteArray):(s.toList==t.toList)=decide (s=t):=by
 rw[ByteArray.toList_eq,ByteArray.toList_eq];by_cases h:s=t
 ·subst h;simp
 ·rw[zD h,zB];intro e;apply h;cases s;cases t
  congr 1
  exact Array.toList_inj.1 e
theorem same_any (w:World)(v1 v2:Value)(l m:List ByteArray)(h1:SlV w 1 sE v1 l)(h2:SlV w 1 sE v2 m):
  Calls Tryz.prog 14 #[v1,v2] w fun e w'=>e= .returned (.bool (decide (l=m)))∧∃n,w'=w.drewN n:=by
 obtain⟨A1,c1,rfl,hc1,hm1,s1⟩:=h1;obtain⟨A2,c2,rfl,hc2,hm2,s2⟩:=h2;unfold maxLen at hm1 hm2;by_cases hlen:l.length=m.length
 ·obtain⟨b,hb⟩:∃b:Bool,decide (l=m)=b:=⟨_,rfl⟩;rw[hb];have HB:=zH hb;clear hb;obtain⟨N,hN⟩:∃N,N=l.length:=⟨_,rfl⟩;have hN2:m.length=N:=by omega
  rw[←hN,hN2];rw[←hN] at hc1;rw[hN2] at hc2;have HL:=zH (zA hN hN2);clear hlen hN hN2;have HS:=zH (zA s1 s2);clear s1 s2;go_enter Tryz.func14,Tryz.ntmps14
  go_wp2_with fail
  go_loopw [13] (fun i wr=>∃k q:Nat,k≤N∧i= .int .i64 k∧l.take k=m.take k∧wr=w.drewN q) (fun i _=>N-(intOf i).toNat)
  case atStart=>exact⟨0,0,Nat.zero_le _,rfl,by simp,rfl⟩
  case round=>
   obtain⟨k,q,hk,rfl,htk,rfl⟩:=hrel;have HT:=zH htk;clear htk;by_cases hlt:k<N
   ·(have k1:k<l.length:=by have:=HL.out;omega);(have k2:k<m.length:=by have:=HL.out;omega);obtain⟨b1,o1,rfl,_,q1⟩:=HS.out.1 (by omega);obtain⟨b2,o2,rfl,_,q2⟩:=HS.out.2 (by omega);have g1:=q1 k k1 0 (by omega);have g2:=q2 k k2 0 (by omega);(simp [sE] at g1 g2);(have t1:l.take (k+1)=l.take k++[l[k]]:=by rw[zG k1]);(have t2:m.take (k+1)=m.take k++[m[k]]:=by rw[zG k2]);(have hne:l[k]≠m[k]→l≠m:=fun h e=>h (by subst e;rfl));have HE:=zH (zA t1 (zA t2 hne));clear t1 t2 hne q1 q2;(obtain⟨i0,i1⟩:(0:Int)≤k∧(k:Int)<N:=by omega);generalize l[k]=x at*;generalize m[k]=y at*;have hbq:=beqT x y;by_cases hxy:x=y
    ·have HXY:=zH hxy;rw[zE hxy] at hbq;clear hxy;(go_wp2_with fail);(go_quiet (fail));(go_wp2_with fail);go_roundw
     case rel=>exact⟨k+1,q+nq,by omega,by go_num,by rw[HE.out.1,HE.out.2.1,HT.out,HXY.out],rfl⟩
     case measure=>simp [intOf];omega
    ·rw[zD hxy] at hbq;(have hbf:b=false:=by rw[←HB.out];exact zD (HE.out.2.2 hxy));subst hbf;clear hxy;(go_wp2_with fail);(go_quiet (fail));(go_wp2_with fail);go_ret;exact⟨rfl,q+nq,by rw[World.drewN_drewN]⟩
   ·(obtain rfl:k=N:=by omega);have hbt:b=true:=by
     rw[←HB.out];have h:=HT.out;rw[zO (by have:=HL.out;omega),zO (by have:=HL.out;omega)] at h;exact zE h
    subst hbt;(go_wp2_with fail);go_ret;exact⟨rfl,q,rfl⟩
 ·have hd:decide (l=m)=false:=zD (fun e=>hlen (by rw[e]));have hne:(l.length:Int)≠m.length:=by omega
  have hbn:((l.length:Int)==(m.length:Int))=false:=by rw[zB];exact hne
  rw[hd];clear hd s1 s2;go_enter Tryz.func14,Tryz.ntmps14
  go_wp2_with fail
  go_ret;exact⟨rfl,0,rfl⟩
end Go.Proofs.YtnpehjgnplaabaaGreatDoor
